/-
  DERIVED. GIVEN WITH THE SEED: THE CARDS: each row of YtmlidlbchidgdaaGreatDoorRows.lean that lists a variable, with what it lists TIED to the program's text (the seventh form; the later family's looks); each row that meets fmt, with fmt's text TOLD by the authors' own Lean function (tested against real Go, not proved from fmt's source: count such statements apart). THE CARD IS WHAT COUNTS. Prove the row's statement (the work); the ties are given (YtmlidlbchidgdaaGreatDoorTie.lean); close each card by the builder's one call (the guide's Derived/Test/ToyasCard.lean, 'card_holds'). Laid BY PROGRAM, IN A SANDBOX (cutbox-door.mjs). By AI agents, Wed Nov 11 2026. No macro, syntax, notation, axiom, sorry.
-/
import Derived.Test.YtmlidlbchidgdaaGreatDoorRows
import GoSem.ClaimSeven
namespace Go.Proofs.YtmlidlbchidgdaaGreatDoor
namespace Rows

/-- THE TIED CARD OF 'spinnakerlaw20.SimWindows'. -/
def simWindowsCard : Claim7 := { stood := { row := simWindowsRow, standIns := [], harness := (true, "0a9a7e1814ef4c262b283c6c4bf7ac92c411842b688ff8b81f1ab74efb3d1cc3"), looks := false }, kinds := [], alts := [], laidByText := true, laidKinds := [.widerDeep], laidTests := true, laidLooks := .later }
def SimWindowsCardSaid : Prop := Claim7.holds Tryz.pinned (.plain (OpenSpec.ofChange simWindowsSpec)) simWindowsCard

/-- THE TIED CARD OF 'spinnakerlaw20.SimAlone'. -/
def simAloneCard : Claim7 := { stood := { row := simAloneRow, standIns := [], harness := (true, "0a9a7e1814ef4c262b283c6c4bf7ac92c411842b688ff8b81f1ab74efb3d1cc3"), looks := false }, kinds := [], alts := [], laidByText := true, laidKinds := [.widerDeep], laidTests := true, laidLooks := .later }
def SimAloneCardSaid : Prop := Claim7.holds Tryz.pinned (.plain (OpenSpec.ofChange simAloneSpec)) simAloneCard

/-- THE TIED CARD OF 'spinnakerlaw20.SimData'. -/
def simDataCard : Claim7 := { stood := { row := simDataRow, standIns := [], harness := (true, "0a9a7e1814ef4c262b283c6c4bf7ac92c411842b688ff8b81f1ab74efb3d1cc3"), looks := false }, kinds := [], alts := [], laidByText := true, laidKinds := [.widerDeep], laidTests := true, laidLooks := .later }
def SimDataCardSaid : Prop := Claim7.holds Tryz.pinned (.plain (OpenSpec.ofChange simDataSpec)) simDataCard

/-- THE TIED CARD OF 'spinnakerlaw20.SimParts'. -/
def simPartsCard : Claim7 := { stood := { row := simPartsRow, standIns := [], harness := (true, "0a9a7e1814ef4c262b283c6c4bf7ac92c411842b688ff8b81f1ab74efb3d1cc3"), looks := false }, kinds := [], alts := [], laidByText := true, laidKinds := [.widerDeep], laidTests := true, laidLooks := .later }
def SimPartsCardSaid : Prop := Claim7.holds Tryz.pinned (.plain (OpenSpec.ofChange simPartsSpec)) simPartsCard

/-- THE TIED CARD OF 'spinnakerlaw20.SimNobody'. -/
def simNobodyCard : Claim7 := { stood := { row := simNobodyRow, standIns := [], harness := (true, "0a9a7e1814ef4c262b283c6c4bf7ac92c411842b688ff8b81f1ab74efb3d1cc3"), looks := false }, kinds := [], alts := [], laidByText := true, laidKinds := [.widerDeep], laidTests := true, laidLooks := .later }
def SimNobodyCardSaid : Prop := Claim7.holds Tryz.pinned (.plain (OpenSpec.ofChange simNobodySpec)) simNobodyCard

/-- THE SECOND FORM's CARD OF 'spinnakerlaw20.SimWindows'. -/
def simWindowsUptoCard : Claim7 := { stood := { row := simWindowsUptoRow, standIns := [], harness := (true, "0a9a7e1814ef4c262b283c6c4bf7ac92c411842b688ff8b81f1ab74efb3d1cc3"), looks := false }, kinds := [], alts := [], laidByText := true, laidKinds := [.widerDeep], laidTests := true, laidLooks := .later }
def SimWindowsUptoCardSaid : Prop := Claim7.holds Tryz.pinned (.plain (OpenSpec.upto simWindowsSpec)) simWindowsUptoCard

/-- THE SECOND FORM's CARD OF 'spinnakerlaw20.SimAlone'. -/
def simAloneUptoCard : Claim7 := { stood := { row := simAloneUptoRow, standIns := [], harness := (true, "0a9a7e1814ef4c262b283c6c4bf7ac92c411842b688ff8b81f1ab74efb3d1cc3"), looks := false }, kinds := [], alts := [], laidByText := true, laidKinds := [.widerDeep], laidTests := true, laidLooks := .later }
def SimAloneUptoCardSaid : Prop := Claim7.holds Tryz.pinned (.plain (OpenSpec.upto simAloneSpec)) simAloneUptoCard

/-- THE SECOND FORM's CARD OF 'spinnakerlaw20.SimData'. -/
def simDataUptoCard : Claim7 := { stood := { row := simDataUptoRow, standIns := [], harness := (true, "0a9a7e1814ef4c262b283c6c4bf7ac92c411842b688ff8b81f1ab74efb3d1cc3"), looks := false }, kinds := [], alts := [], laidByText := true, laidKinds := [.widerDeep], laidTests := true, laidLooks := .later }
def SimDataUptoCardSaid : Prop := Claim7.holds Tryz.pinned (.plain (OpenSpec.upto simDataSpec)) simDataUptoCard

/-- THE SECOND FORM's CARD OF 'spinnakerlaw20.SimParts'. -/
def simPartsUptoCard : Claim7 := { stood := { row := simPartsUptoRow, standIns := [], harness := (true, "0a9a7e1814ef4c262b283c6c4bf7ac92c411842b688ff8b81f1ab74efb3d1cc3"), looks := false }, kinds := [], alts := [], laidByText := true, laidKinds := [.widerDeep], laidTests := true, laidLooks := .later }
def SimPartsUptoCardSaid : Prop := Claim7.holds Tryz.pinned (.plain (OpenSpec.upto simPartsSpec)) simPartsUptoCard

/-- THE SECOND FORM's CARD OF 'spinnakerlaw20.SimNobody'. -/
def simNobodyUptoCard : Claim7 := { stood := { row := simNobodyUptoRow, standIns := [], harness := (true, "0a9a7e1814ef4c262b283c6c4bf7ac92c411842b688ff8b81f1ab74efb3d1cc3"), looks := false }, kinds := [], alts := [], laidByText := true, laidKinds := [.widerDeep], laidTests := true, laidLooks := .later }
def SimNobodyUptoCardSaid : Prop := Claim7.holds Tryz.pinned (.plain (OpenSpec.upto simNobodySpec)) simNobodyUptoCard
end Rows
end Go.Proofs.YtmlidlbchidgdaaGreatDoor
