/-
  DERIVED. GIVEN WITH THE SEED: THE CARDS: each row of YtefbdhbfhgapeaaDoorRows.lean that lists a variable, with what it lists TIED to the program's text (the seventh form; the later family's looks); each row that meets fmt, with fmt's text TOLD by the authors' own Lean function (tested against real Go, not proved from fmt's source: count such statements apart). THE CARD IS WHAT COUNTS. Prove the row's statement (the work); the ties are given (YtefbdhbfhgapeaaDoorTie.lean); close each card by the builder's one call (the guide's Derived/Test/ToyasCard.lean, 'card_holds'). Laid BY PROGRAM, IN A SANDBOX (cutbox-door.mjs). By AI agents, Wed Nov 11 2026. No macro, syntax, notation, axiom, sorry.
-/
import Derived.Test.YtefbdhbfhgapeaaDoorRows
import GoSem.ClaimSeven
namespace Go.Proofs.YtefbdhbfhgapeaaDoor
namespace Rows

/-- THE TIED CARD OF 'spinnakerlaw19.WindowNobody'. -/
def windowNobodyCard : Claim7 := { stood := { row := windowNobodyRow, standIns := [], harness := (true, "ab13bceafeb6dc01280a04cb649f00c64a69b7885795421d96a4a8df69a56187"), looks := false }, kinds := [], alts := [], laidByText := true, laidKinds := [.widerDeep], laidTests := true, laidLooks := .later }
def WindowNobodyCardSaid : Prop := Claim7.holds Tryd.pinned (.plain (OpenSpec.ofChange windowNobodySpec)) windowNobodyCard

/-- THE SECOND FORM's CARD OF 'spinnakerlaw19.WindowNobody'. -/
def windowNobodyUptoCard : Claim7 := { stood := { row := windowNobodyUptoRow, standIns := [], harness := (true, "ab13bceafeb6dc01280a04cb649f00c64a69b7885795421d96a4a8df69a56187"), looks := false }, kinds := [], alts := [], laidByText := true, laidKinds := [.widerDeep], laidTests := true, laidLooks := .later }
def WindowNobodyUptoCardSaid : Prop := Claim7.holds Tryd.pinned (.plain (OpenSpec.upto windowNobodySpec)) windowNobodyUptoCard
end Rows
end Go.Proofs.YtefbdhbfhgapeaaDoor
