/- For every slice of bytes, the law spinnakerlaw22.LexScans returns true and leaves its argument as it was; the listed tables hold what the program's text lays (the card ties that). -/
import Derived.Test.YtpjdfeplfbmgpaaDoorAm6
import Derived.Test.YtpjdfeplfbmgpaaDoorCards
import Derived.Test.YtpjdfeplfbmgpaaDoorTie
import Derived.Test.YtpjdfeplfbmgpaaDoorTLex
import Derived.WalkKit
import Derived.ProofKit
import Derived.OpenShut
import Derived.Deep.DeepHandedRow
import Derived.Lib.LaidTab
import Derived.MakeChecks
import Derived.Lay
set_option linter.unusedSimpArgs false
namespace Go.Proofs.YtpjdfeplfbmgpaaDoor.fnLexScans
open Go.ChangeShapes Go.WideShapes Go.ChangeAt Go.RowKit

theorem own : ownKnob Tryd.prog.godebug = none := by kernel_rfl
theorem gn_2 : Tryd.prog.globalNamed "spinnaker/lex.signs" = some 2 := by kernel_rfl
theorem gn_4 : Tryd.prog.globalNamed "strconv.ErrSyntax" = some 4 := by kernel_rfl
theorem gn_5 : Tryd.prog.globalNamed "strconv.ErrRange" = some 5 := by kernel_rfl
theorem gn_6 : Tryd.prog.globalNamed "internal/strconv.uint64pow10" = some 6 := by kernel_rfl
theorem gn_9 : Tryd.prog.globalNamed "math/bits.deBruijn32tab" = some 9 := by kernel_rfl
theorem gn_10 : Tryd.prog.globalNamed "math/bits.deBruijn64tab" = some 10 := by kernel_rfl
theorem globs {W : World} (hL : laidMetH Tryd.prog Rows.lexScansRow.laid W) : Am.GlobOk (Am.start W) Am.glT := by
  rw [MakeChecks.laidMetH_plain _ _ _ (by kernel_rfl)] at hL
  intro g cs h
  unfold Am.glT at h
  by_cases e : g = 2
  · rw [if_pos e] at h; injection h with h; subst e; subst h
    exact Am.glob_tab (d := Rows.laid_spinnaker_lex_signs) hL (by simp [Rows.lexScansRow]) gn_2 (t := 93) (by kernel_rfl) Tryd.underlying93 (by kernel_rfl) (by kernel_rfl) (by kernel_rfl)
  rw [if_neg e] at h; clear e
  by_cases e : g = 4
  · rw [if_pos e] at h; injection h with h; subst e; subst h
    exact Am.glob_opq (d := Rows.laid_strconv_ErrSyntax) hL (by simp [Rows.lexScansRow]) gn_4 (t := 67) (by kernel_rfl) Tryd.underlying67
  rw [if_neg e] at h; clear e
  by_cases e : g = 5
  · rw [if_pos e] at h; injection h with h; subst e; subst h
    exact Am.glob_opq (d := Rows.laid_strconv_ErrRange) hL (by simp [Rows.lexScansRow]) gn_5 (t := 67) (by kernel_rfl) Tryd.underlying67
  rw [if_neg e] at h; clear e
  by_cases e : g = 6
  · rw [if_pos e] at h; injection h with h; subst e; subst h
    exact Am.glob_tab (d := Rows.laid_internal_strconv_uint64pow10) hL (by simp [Rows.lexScansRow]) gn_6 (t := 130) (by kernel_rfl) Tryd.underlying130 (by kernel_rfl) (by kernel_rfl) (by kernel_rfl)
  rw [if_neg e] at h; clear e
  by_cases e : g = 9
  · rw [if_pos e] at h; injection h with h; subst e; subst h
    exact Am.glob_tab (d := Rows.laid_math_bits_deBruijn32tab) hL (by simp [Rows.lexScansRow]) gn_9 (t := 141) (by kernel_rfl) Tryd.underlying141 (by kernel_rfl) (by kernel_rfl) (by kernel_rfl)
  rw [if_neg e] at h; clear e
  by_cases e : g = 10
  · rw [if_pos e] at h; injection h with h; subst e; subst h
    exact Am.glob_tab (d := Rows.laid_math_bits_deBruijn64tab) hL (by simp [Rows.lexScansRow]) gn_10 (t := 142) (by kernel_rfl) Tryd.underlying142 (by kernel_rfl) (by kernel_rfl) (by kernel_rfl)
  rw [if_neg e] at h; clear e
  simp at h

theorem params_ok : ∀ t ∈ Tryd.f4.params.toList, Tryd.prog.readableRec t = true ∧ t < Tryd.prog.types.size := by
  have h : (Tryd.f4.params.toList.all fun t => Tryd.prog.readableRec t && decide (t < Tryd.prog.types.size)) = true := by kernel_rfl
  intro t ht
  have := List.all_eq_true.1 h t ht
  simpa using this

section
variable {H : Type} {enc : TypeId × Value → H} {W : World} {base : Nat} {spare : Nat → Bool} {held : Bool}
/-- A slice of bytes, as it is read. -/
theorem bytes_read {fuel : Nat} {cs : List Value} {x : DataW H × List MemPlace} (h : DataW.trod enc Tryd.prog W base spare held fuel 28 cs = some x) : ∃ l : List UInt8, Am.RepL (Am.start W) [.slc .any 1 (l.map Am.bv)] cs := by
  have c1 : Tryd.prog.cellsOf 5 = 1 := by kernel_rfl
  obtain ⟨rows, hr, hlen, hg⟩ := Am.trod_slc (Good := fun vs => ∃ c : UInt8, vs = Am.bv c) Tryd.underlying28 (by rw [c1]; exact Nat.one_pos) (fun n cs y h2 hcl => by
    obtain ⟨m, h0, h1, hm⟩ := Am.trod_intV Tryd.underlying5 h2
    have h0' : (0 : Int) ≤ m := h0
    have h1' : m ≤ (255 : Int) := h1
    refine ⟨[.sc (.int .u8 m)], c1.symm, rfl, ⟨UInt8.ofNat m.toNat, ?_⟩, hm⟩
    have hm : ((UInt8.ofNat m.toNat).toNat : Int) = m := by
      rw [UInt8.toNat_ofNat_of_lt' (by show m.toNat < 256; omega)]
      omega
    show [Am.V.sc (.int .u8 m)] = [Am.V.sc (.int .u8 ((UInt8.ofNat m.toNat).toNat : Int))]
    rw [hm]) h
  rw [c1] at hr
  obtain ⟨l, rfl⟩ : ∃ l : List UInt8, rows = l.map Am.bv := by
    clear hr hlen
    induction rows with
    | nil => exact ⟨[], rfl⟩
    | cons r rows ih =>
      obtain ⟨ys, rfl⟩ := ih fun r hr => hg r (by simp [hr])
      obtain ⟨_, c, rfl⟩ := hg r (by simp)
      exact ⟨c :: ys, rfl⟩
  exact ⟨l, hr⟩
end

set_option maxRecDepth 100000 in
theorem law_run (H : Type) (enc : TypeId × Value → H) (W : World) (base : Nat) (args : Array Value) (ds gs : List (DataW H)) (before : List MemPlace)
    (hval : ∀ (j : Nat) t v, Tryd.f4.params[j]? = some t → args[j]? = some v → Value.okWide Tryd.prog W .any base t v)
    (hW : DataW.Whole enc Tryd.prog Tryd.f4.params.toList Rows.lexScansSpec.vars false W args.toList ds gs before) (hL : laidMetH Tryd.prog Rows.lexScansRow.laid W) :
    Calls Tryd.prog 4 args W fun e W' => e = .returned (.bool true) ∧ Below W.heap.size W W' := by
  obtain ⟨p, q, hA0, hV, rfl, _, _⟩ := hW
  have hA : DataW.TrodAll enc Tryd.prog W 0 (fun _ => true) true Tryd.f4.params.toList args.toList ds p := hA0
  rw [Tryd.params4] at hA hval
  obtain ⟨v0, vs0, d0, ds0, p0, q0, hargs, rfl, rfl, h0, r0⟩ := trodAll_cons hA
  obtain ⟨rfl, rfl, rfl⟩ := trodAll_nil r0
  obtain rfl : args = #[v0] := by cases args; simp_all
  obtain ⟨_, h0⟩ := h0
  obtain ⟨l, ra⟩ := bytes_read h0
  refine Am.law_calls (fn := Tryd.f4) (vs := [.slc .any 1 (l.map Am.bv)]) Am.call_all (globs hL) ?_ Tryd.func4 (by kernel_rfl) (by kernel_rfl) (Am.lexScans_law .any l)
  rw [Am.cells_slice Tryd.underlying28 (hval 0 28 v0 rfl rfl)] at ra
  simpa using ra

theorem spec_shape {H : Type} {enc : TypeId × Value → H} {W : World} {args : Array Value} {ds gs : List (DataW H)} {before : List MemPlace}
    (hW : DataW.Whole enc Tryd.prog Tryd.f4.params.toList Rows.lexScansSpec.vars false W args.toList ds gs before) :
    (Rows.lexScansSpec.fn H (ds ++ gs)).results = [.lit (.bool true)] ∧ (Rows.lexScansSpec.fn H (ds ++ gs)).args = ds ∧ (Rows.lexScansSpec.fn H (ds ++ gs)).vars = [] := by
  obtain ⟨p, q, hA0, hV, rfl, _, _⟩ := hW
  have hA : DataW.TrodAll enc Tryd.prog W 0 (fun _ => true) true Tryd.f4.params.toList args.toList ds p := hA0
  rw [Tryd.params4] at hA
  obtain ⟨rfl, rfl⟩ := trodVars_none hV
  obtain ⟨v0, vs0, d0, ds0, p0, q0, hargs, rfl, rfl, h0, r0⟩ := trodAll_cons hA
  obtain ⟨rfl, rfl, rfl⟩ := trodAll_nil r0
  exact ⟨rfl, rfl, rfl⟩

set_option maxRecDepth 100000 in
/-- WHAT THE WALK GIVES, FOR EVERY ARGUMENT AND EVERY WORLD THAT HOLDS THE TABLES. -/
theorem contract (H : Type) (enc : TypeId × Value → H) (W : World) (base : Nat) (args : Array Value) (ds gs : List (DataW H)) (before : List MemPlace)
    (hval : ∀ (j : Nat) t v, Tryd.f4.params[j]? = some t → args[j]? = some v → Value.okWide Tryd.prog W .any base t v)
    (hW : DataW.Whole enc Tryd.prog Tryd.f4.params.toList Rows.lexScansSpec.vars false W args.toList ds gs before) (hL : laidMetH Tryd.prog Rows.lexScansRow.laid W) :
    Calls Tryd.prog 4 args W fun e W' => ∃ v, e = .returned v ∧ Rows.lexScansSpec.post enc Tryd.prog Tryd.f4 false true false false W args v W' := by
  have hrun := law_run H enc W base args ds gs before hval hW hL
  refine hrun.mono fun e W' he => ?_
  obtain ⟨rfl, hb⟩ := he
  exact ⟨_, rfl, Am.law_post (tb := 4) (gs := gs) (before := before) (by kernel_rfl) params_ok (by kernel_rfl) Tryd.underlying4 rfl (spec_shape hW) hW hb⟩

set_option maxRecDepth 100000 in
theorem laid_met (os : Os) (args : Array Value) : laidMet Tryd.prog Rows.lexScansRow.laid ((World.laidAll Tryd.prog os Rows.lexScansRow.laid).forCall (fun _ _ => 0) ⟨#[], args, []⟩).memory :=
  laidMet_laidAll _ (by kernel_rfl) (by kernel_rfl)
theorem reads (os : Os) {H : Type} (enc : TypeId × Value → H) : ∃ places, DataW.whole enc Tryd.prog ((World.laidAll Tryd.prog os Rows.lexScansRow.laid).forCall (fun _ _ => 0) ⟨#[], #[.slice none 0 0], []⟩).memory Tryd.f4.params.toList Rows.lexScansSpec.vars false #[.slice none 0 0].toList 8 = some ([.nil], [], places) :=
  ⟨[], by kernel_rfl⟩

set_option maxRecDepth 100000 in
theorem lifted (os : Os) (started : os.Started) (H : Type) (enc : TypeId × Value → H) (F : Stop.Interp) :
    ReturnsInHanded {} Tryd.checked os 4 .any ((OpenSpec.ofChange Rows.lexScansSpec).preRow enc Tryd.prog Tryd.f4 Rows.lexScansRow.domain false Rows.lexScansRow.laid) (((OpenSpec.ofChange Rows.lexScansSpec).at F).post enc Tryd.prog Tryd.f4 false true false false) := by
  obtain ⟨places, hx⟩ := reads os enc
  refine returnsInHanded_of_row (C := Tryd.checked) (s := OpenSpec.ofChange Rows.lexScansSpec) own started (by kernel_rfl) Tryd.func4
    (witness_row_at (enc := enc) (C := Tryd.checked) false (World.laidAll Tryd.prog os Rows.lexScansRow.laid) #[.slice none 0 0] (World.laidAll_os _ _ _) (by kernel_rfl) (by kernel_rfl) (by kernel_rfl)
      (OpenSpec.preRow_of_cond 8 hx (by kernel_rfl) (fun k hk => by cases hk) (by kernel_rfl) (laid_met os _))) ?_
  intro W base args ds gs before hval hW _ _ _ hL _ _
  exact contract H enc W base args ds gs before hval hW hL

theorem said : Rows.LexScansSaid :=
  OpenClaim.holds_of_cond 4 Tryd.f4 rfl rfl rfl rfl rfl rfl rfl ⟨rfl, rfl, rfl, rfl, rfl⟩ rfl rfl rfl rfl rfl (by kernel_rfl) Tryd.func4 (by kernel_rfl)
    (of_decide_eq_true (by kernel_rfl)) (by unfold Func.isWrapper; first | (rw [if_pos (by decide +kernel)]; kernel_rfl) | (rw [if_neg (by decide +kernel)]; exact ⟨rfl, rfl⟩))
    (fun os started H enc _ F => by rw [OpenClaim.pre_eq_preRow]; exact lifted os started H enc F)

theorem plain (f : FuncId) (fn : Func) (hf : Tryd.pinned.checked.prog.funcNamed Rows.lexScansRow.func = some f) (hfn : Tryd.pinned.checked.prog.funcs[f]? = some fn) :
    true = Tryd.pinned.checked.prog.looks [] ∧ ∀ (j : Nat) t, fn.params[j]? = some t → Tryd.pinned.checked.prog.wantsStandIn t = false := by
  obtain rfl : f = 4 := Option.some.inj ((show Tryd.prog.funcNamed Rows.lexScansRow.func = some 4 by kernel_rfl).symm.trans hf) |>.symm
  obtain rfl : fn = Tryd.f4 := (Option.some.inj (Tryd.func4.symm.trans hfn)).symm
  refine ⟨by kernel_rfl, fun j t ht => ?_⟩
  have hall : (Tryd.f4.params.toList.all fun t => !Tryd.prog.wantsStandIn t) = true := by kernel_rfl
  have := List.all_eq_true.1 hall t (by
    rw [← Array.getElem?_toList] at ht
    exact List.mem_of_getElem? ht)
  show Tryd.prog.wantsStandIn t = false
  simpa using this

/-- THE CARD. -/
theorem card : Rows.LexScansCardSaid :=
  Claim7.holds_tied_plain_at .later [] _ _ _ _ said (fun _ h => by cases h) (by kernel_rfl) (fun _ h => by cases h) lexScans_row_tie rfl ⟨rfl, rfl⟩ (by kernel_rfl) rfl plain (by kernel_rfl)
end Go.Proofs.YtpjdfeplfbmgpaaDoor.fnLexScans
namespace Go.Proofs.YtpjdfeplfbmgpaaDoor
theorem lexScans_card : Rows.LexScansCardSaid := fnLexScans.card
end Go.Proofs.YtpjdfeplfbmgpaaDoor
