/-
  NARROWER THAN 'FOR EVERY INPUT', by the rows' own cells (each row's printed sentence says how): CheckPrograms: loops, laid · CheckRenames: loops, laid · CheckKinds: loops, laid.
  DERIVED. THE GIVEN ROWS OF THIS SEAT. 3 by the template 'for every input the law returns true; each argument reads behind the call as it read before'; 0 by the template 'total and deterministic' (their statements: YtjjgpjlfnendaaaDoorTotals.lean).
  GIVEN WITH THE SEED: the statements are not yours to turn. If you find one false, say at which input.
  Laid BY PROGRAM, IN A SANDBOX (cutbox-rows.mjs): the forced cells as the released guide's own fill.sh prints them over the translation b5e75737f4f459a2… (all of the seat's roots in one cut). By AI agents, Wed Nov 11 2026. No macro, syntax, notation, axiom, sorry.
-/
import Derived.Test.YtjjgpjlfnendaaaDoorChecked
import GoSem.Claim
import GoSem.ClaimJoined
import GoSem.ClaimMapViews
import Derived.JoinedTies
import Derived.KernelRfl
namespace Go.Proofs.YtjjgpjlfnendaaaDoor
/- THE CELL 'sum', in the pinned program and in every row, IS THE sha256 OF THE DUMP (.gsa) THAT YtjjgpjlfnendaaaDoorProg.lean LOADS. Nothing in Lean hashes anything: it is a label: what it is worth is what the hold of that sum in a sandbox is worth. -/
noncomputable def Tryd.pinned : Pinned := { name := "ytjjgpjlfnendaaadoor", sum := "b5e75737f4f459a2aca5c001d16537b14317c9637c44171fa7fdb49dc0de1ad7", checked := Tryd.checked }
namespace Rows
def none {H : Type} : Left H := { results := [], args := [] }

/- WHAT THE LISTED PACKAGE-LEVEL VARIABLES READ AS WHEN THE CALL BEGINS. Each datum BY PROGRAM (the guide's laid-datum.mjs) off the statement by which the dump's own 'gosem.cut.vars' lays the variable. In a bare row this is a premise. The card (YtjjgpjlfnendaaaDoorCards.lean) ties it to the program's text. -/
def laid_spinnaker_lex_words {H : Type} : DataW H := .agg [.lit (.string [99, 101, 108, 108]), .lit (.string [112, 114, 111, 99]), .lit (.string [116, 104, 114, 101, 97, 100]), .lit (.string [118, 97, 114]), .lit (.string [97, 114, 114, 97, 121]), .lit (.string [108, 111, 97, 100]), .lit (.string [115, 116, 111, 114, 101]), .lit (.string [115, 119, 97, 112]), .lit (.string [97, 100, 100]), .lit (.string [97, 110, 100]), .lit (.string [111, 114]), .lit (.string [120, 111, 114]), .lit (.string [109, 105, 110]), .lit (.string [109, 97, 120]), .lit (.string [99, 97, 115]), .lit (.string [102, 101, 110, 99, 101]), .lit (.string [105, 102]), .lit (.string [101, 108, 115, 101]), .lit (.string [119, 104, 105, 108, 101]), .lit (.string [112, 114, 105, 110, 116]), .lit (.string [99, 97, 108, 108]), .lit (.string [104, 97, 108, 116]), .lit (.string [114, 108, 120]), .lit (.string [97, 99, 113]), .lit (.string [114, 101, 108]), .lit (.string [98, 111, 116, 104])]

/-- 'spinnakerlaw25.CheckPrograms': WHATEVER THE INPUT: true; the input reads as it did. -/
def checkProgramsSpec : ChangeSpec := { name := "checkPrograms", fn := fun _ => fun
  | [d] => { results := [.lit (.bool true)], args := [d] }
  | _ => none }
def checkProgramsRow : OpenClaim := { program := "ytjjgpjlfnendaaadoor", sum := "b5e75737f4f459a2aca5c001d16537b14317c9637c44171fa7fdb49dc0de1ad7", func := "spinnaker/spinnakerlaw25.CheckPrograms", spec := "checkPrograms", unfollowed := true, recurses := true, named := ["spinnaker/lex.words"], loops := true, apart := false, laid := [("spinnaker/lex.words", laid_spinnaker_lex_words)] }
def CheckProgramsSaid : Prop := checkProgramsRow.holds Tryd.pinned (OpenSpec.ofChange checkProgramsSpec)

/-- ITS FALSE NEIGHBOUR: 'it returns false'. Refute it at one input. -/
def checkProgramsWrong : ChangeSpec := { name := "checkPrograms", fn := fun _ => fun
  | [d] => { results := [.lit (.bool false)], args := [d] }
  | _ => none }
def CheckProgramsWrongFalsely : Prop := checkProgramsRow.holds Tryd.pinned (OpenSpec.ofChange checkProgramsWrong)

/-- 'spinnakerlaw25.CheckRenames': WHATEVER THE INPUT: true; the input reads as it did. -/
def checkRenamesSpec : ChangeSpec := { name := "checkRenames", fn := fun _ => fun
  | [d1, d2, d3] => { results := [.lit (.bool true)], args := [d1, d2, d3] }
  | _ => none }
def checkRenamesRow : OpenClaim := { program := "ytjjgpjlfnendaaadoor", sum := "b5e75737f4f459a2aca5c001d16537b14317c9637c44171fa7fdb49dc0de1ad7", func := "spinnaker/spinnakerlaw25.CheckRenames", spec := "checkRenames", unfollowed := true, recurses := true, named := ["spinnaker/lex.words"], loops := true, apart := false, laid := [("spinnaker/lex.words", laid_spinnaker_lex_words)] }
def CheckRenamesSaid : Prop := checkRenamesRow.holds Tryd.pinned (OpenSpec.ofChange checkRenamesSpec)

/-- ITS FALSE NEIGHBOUR: 'it returns false'. Refute it at one input. -/
def checkRenamesWrong : ChangeSpec := { name := "checkRenames", fn := fun _ => fun
  | [d1, d2, d3] => { results := [.lit (.bool false)], args := [d1, d2, d3] }
  | _ => none }
def CheckRenamesWrongFalsely : Prop := checkRenamesRow.holds Tryd.pinned (OpenSpec.ofChange checkRenamesWrong)

/-- 'spinnakerlaw25.CheckKinds': WHATEVER THE INPUT: true; the input reads as it did. -/
def checkKindsSpec : ChangeSpec := { name := "checkKinds", fn := fun _ => fun
  | [d1, d2, d3] => { results := [.lit (.bool true)], args := [d1, d2, d3] }
  | _ => none }
def checkKindsRow : OpenClaim := { program := "ytjjgpjlfnendaaadoor", sum := "b5e75737f4f459a2aca5c001d16537b14317c9637c44171fa7fdb49dc0de1ad7", func := "spinnaker/spinnakerlaw25.CheckKinds", spec := "checkKinds", unfollowed := true, recurses := true, named := ["spinnaker/lex.words"], loops := true, apart := false, laid := [("spinnaker/lex.words", laid_spinnaker_lex_words)] }
def CheckKindsSaid : Prop := checkKindsRow.holds Tryd.pinned (OpenSpec.ofChange checkKindsSpec)

/-- ITS FALSE NEIGHBOUR: 'it returns false'. Refute it at one input. -/
def checkKindsWrong : ChangeSpec := { name := "checkKinds", fn := fun _ => fun
  | [d1, d2, d3] => { results := [.lit (.bool false)], args := [d1, d2, d3] }
  | _ => none }
def CheckKindsWrongFalsely : Prop := checkKindsRow.holds Tryd.pinned (OpenSpec.ofChange checkKindsWrong)

/- THE SECOND FORM. 'bulk': how many values and letters a reading holds, each counted each time it is reached (what is shared counts as often as it is met; a slice's spare places count too). A statement '..UptoSaid' is the law's where the arguments, and the package variables that the reading takes, are together of bulk at most 1048576: NARROWER than '..Said'. Prove '..Said' where nothing that the law and all that it calls make is longer than what came in: it says more and counts as full. Else prove '..UptoSaid'. A law counts once. -/
mutual
def uptoBulk {H : Type} : DataW H → Nat
  | .lit (.string bytes) => bytes.length + 1
  | .lit _ => 1
  | .nil => 1
  | .ptr d => uptoBulk d + 1
  | .slice elems spare => uptoBulkAll elems + uptoBulkAll spare + 1
  | .agg parts => uptoBulkAll parts + 1
  | .iface _ d => uptoBulk d + 1
  | .map entries => uptoBulkEntries entries + 1
  | .held _ => 1
def uptoBulkAll {H : Type} : List (DataW H) → Nat
  | [] => 0
  | d :: r => uptoBulk d + uptoBulkAll r
def uptoBulkEntries {H : Type} : List (Lit × DataW H) → Nat
  | [] => 0
  | x :: r => uptoBulkEntry x + uptoBulkEntries r
def uptoBulkEntry {H : Type} : Lit × DataW H → Nat
  | (.string bytes, d) => bytes.length + uptoBulk d + 1
  | (_, d) => uptoBulk d + 1
 end
def uptoSmall : (H : Type) → List (DataW H) → Bool := fun _ ds => decide (uptoBulkAll ds ≤ 1048576)
def OpenSpec.upto (s : _root_.Go.ChangeSpec) : _root_.Go.OpenSpec := { _root_.Go.OpenSpec.ofChange s with cond := some uptoSmall }

/-- 'spinnakerlaw25.CheckPrograms', WHERE WHAT IT READS IS OF BULK AT MOST 1048576: true; the input reads as it did. -/
def checkProgramsUptoRow : OpenClaim := { program := "ytjjgpjlfnendaaadoor", sum := "b5e75737f4f459a2aca5c001d16537b14317c9637c44171fa7fdb49dc0de1ad7", func := "spinnaker/spinnakerlaw25.CheckPrograms", spec := "checkPrograms", unfollowed := true, recurses := true, named := ["spinnaker/lex.words"], loops := true, apart := false, laid := [("spinnaker/lex.words", laid_spinnaker_lex_words)], narrowed := true }
def CheckProgramsUptoSaid : Prop := checkProgramsUptoRow.holds Tryd.pinned (OpenSpec.upto checkProgramsSpec)

/-- 'spinnakerlaw25.CheckRenames', WHERE WHAT IT READS IS OF BULK AT MOST 1048576: true; the input reads as it did. -/
def checkRenamesUptoRow : OpenClaim := { program := "ytjjgpjlfnendaaadoor", sum := "b5e75737f4f459a2aca5c001d16537b14317c9637c44171fa7fdb49dc0de1ad7", func := "spinnaker/spinnakerlaw25.CheckRenames", spec := "checkRenames", unfollowed := true, recurses := true, named := ["spinnaker/lex.words"], loops := true, apart := false, laid := [("spinnaker/lex.words", laid_spinnaker_lex_words)], narrowed := true }
def CheckRenamesUptoSaid : Prop := checkRenamesUptoRow.holds Tryd.pinned (OpenSpec.upto checkRenamesSpec)

/-- 'spinnakerlaw25.CheckKinds', WHERE WHAT IT READS IS OF BULK AT MOST 1048576: true; the input reads as it did. -/
def checkKindsUptoRow : OpenClaim := { program := "ytjjgpjlfnendaaadoor", sum := "b5e75737f4f459a2aca5c001d16537b14317c9637c44171fa7fdb49dc0de1ad7", func := "spinnaker/spinnakerlaw25.CheckKinds", spec := "checkKinds", unfollowed := true, recurses := true, named := ["spinnaker/lex.words"], loops := true, apart := false, laid := [("spinnaker/lex.words", laid_spinnaker_lex_words)], narrowed := true }
def CheckKindsUptoSaid : Prop := checkKindsUptoRow.holds Tryd.pinned (OpenSpec.upto checkKindsSpec)

end Rows
end Go.Proofs.YtjjgpjlfnendaaaDoor
