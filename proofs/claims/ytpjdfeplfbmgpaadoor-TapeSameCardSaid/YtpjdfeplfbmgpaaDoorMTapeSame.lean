/- For every two lists of tapes and every stop, the law spinnakerlaw46.TapeSame returns true and leaves its arguments as they were; the listed tables hold what the program's text lays (the card ties that). -/
import Derived.Test.YtpjdfeplfbmgpaaDoorCards
import Derived.Test.YtpjdfeplfbmgpaaDoorTie
import Derived.Test.YtpjdfeplfbmgpaaDoorAmTape2
import Derived.Test.YtpjdfeplfbmgpaaDoorTTapeSame
import Derived.WalkKit
import Derived.ProofKit
import Derived.OpenShut
import Derived.Deep.DeepHandedRow
import Derived.Lib.LaidTab
import Derived.MakeChecks
import Derived.Lay
import Derived.Test.YtpjdfeplfbmgpaaDoorAmRow4
set_option linter.unusedSimpArgs false
namespace Go.Proofs.YtpjdfeplfbmgpaaDoor.fnTapeSame
open Go.ChangeShapes Go.WideShapes Go.ChangeAt Go.RowKit

theorem own : ownKnob Tryd.prog.godebug = none := by kernel_rfl
theorem gWords : Tryd.prog.globalNamed "spinnaker/tape.words" = some 0 := by kernel_rfl
theorem gPow : Tryd.prog.globalNamed "internal/strconv.uint64pow10" = some 6 := by kernel_rfl
theorem g32 : Tryd.prog.globalNamed "math/bits.deBruijn32tab" = some 9 := by kernel_rfl
theorem g64 : Tryd.prog.globalNamed "math/bits.deBruijn64tab" = some 10 := by kernel_rfl

theorem globs {W : World} (hL : laidMetH Tryd.prog Rows.tapeSameRow.laid W) : Am.GlobOk (Am.start W) Am.glT := by
  rw [MakeChecks.laidMetH_plain _ _ _ (by kernel_rfl)] at hL
  intro g cs h
  unfold Am.glT at h
  by_cases e : g = 0
  · rw [if_pos e] at h; injection h with h; subst e; subst h
    exact Am.glob_tab (d := Rows.laid_spinnaker_tape_words) hL (by simp [Rows.tapeSameRow]) gWords (t := 50) (by kernel_rfl) Tryd.underlying50 (by kernel_rfl) (by kernel_rfl) (by kernel_rfl)
  rw [if_neg e] at h; clear e
  by_cases e : g = 6
  · rw [if_pos e] at h; injection h with h; subst e; subst h
    exact Am.glob_tab (d := Rows.laid_internal_strconv_uint64pow10) hL (by simp [Rows.tapeSameRow]) gPow (t := 130) (by kernel_rfl) Tryd.underlying130 (by kernel_rfl) (by kernel_rfl) (by kernel_rfl)
  rw [if_neg e] at h; clear e
  by_cases e : g = 9
  · rw [if_pos e] at h; injection h with h; subst e; subst h
    exact Am.glob_tab (d := Rows.laid_math_bits_deBruijn32tab) hL (by simp [Rows.tapeSameRow]) g32 (t := 141) (by kernel_rfl) Tryd.underlying141 (by kernel_rfl) (by kernel_rfl) (by kernel_rfl)
  rw [if_neg e] at h; clear e
  by_cases e : g = 10
  · rw [if_pos e] at h; injection h with h; subst e; subst h
    exact Am.glob_tab (d := Rows.laid_math_bits_deBruijn64tab) hL (by simp [Rows.tapeSameRow]) g64 (t := 142) (by kernel_rfl) Tryd.underlying142 (by kernel_rfl) (by kernel_rfl) (by kernel_rfl)
  rw [if_neg e] at h; clear e
  simp at h

theorem params_ok : ∀ t ∈ Tryd.f3.params.toList, Tryd.prog.readableRec t = true ∧ t < Tryd.prog.types.size := by
  have h : (Tryd.f3.params.toList.all fun t => Tryd.prog.readableRec t && decide (t < Tryd.prog.types.size)) = true := by kernel_rfl
  intro t ht
  have := List.all_eq_true.1 h t ht
  simpa using this

section
variable {H : Type} {enc : TypeId × Value → H} {W : World} {base : Nat} {spare : Nat → Bool} {held : Bool}
open Am in
/-- A list of tapes, as it is read. -/
theorem tapes_read {fuel : Nat} {cs : List Value} {x : DataW H × List MemPlace} (h : DataW.trod enc Tryd.prog W base spare held fuel 22 cs = some x) :
    ∃ a : List (List Int), a.length < 2 ^ 63 ∧ (∀ y ∈ a, y.length < 2 ^ 63) ∧ RepL (Am.start W) [.slc .any 1 (a.map rv)] cs := by
  obtain ⟨rows, hr, hl, hg⟩ := trod_slc (Good := fun vs => ∃ y : List Int, y.length < 2 ^ 63 ∧ vs = rv y) Tryd.underlying22 (Nat.lt_of_lt_of_eq Nat.one_pos (show 1 = Tryd.prog.cellsOf 42 by kernel_rfl)) (fun n cs y h2 hcl => by
    obtain ⟨rows, hr, hl, hg⟩ := trod_slc (Good := fun vs => ∃ y : Int, vs = iv y) Tryd.underlying42 (Nat.lt_of_lt_of_eq Nat.one_pos (show 1 = Tryd.prog.cellsOf 3 by kernel_rfl)) (fun n cs y h3 hcl => by
      obtain ⟨k, _, _, hk⟩ := trod_intV (k := .i64) Tryd.underlying3 h3
      exact ⟨_, by kernel_rfl, rfl, ⟨k, rfl⟩, hk⟩) h2
    have hmax : Go.maxLen < 2 ^ 63 := by decide
    obtain ⟨ys, rfl⟩ : ∃ ys : List Int, rows = ys.map iv := by
      clear hr hl
      induction rows with
      | nil => exact ⟨[], rfl⟩
      | cons r rows ih =>
        obtain ⟨ys, rfl⟩ := ih fun r hr => hg r (by simp [hr])
        obtain ⟨_, y, rfl⟩ := hg r (by simp)
        exact ⟨y :: ys, rfl⟩
    have c1 : Tryd.prog.cellsOf 3 = 1 := by kernel_rfl
    rw [c1] at hr
    refine ⟨_, by rw [show Tryd.prog.cellsOf 42 = 1 by kernel_rfl]; rfl, rfl, ⟨ys, by simp only [List.length_map] at hl; omega, rfl⟩, hr⟩) h
  have hmax : Go.maxLen < 2 ^ 63 := by decide
  obtain ⟨ys, rfl, hy⟩ : ∃ ys : List (List Int), rows = ys.map rv ∧ ∀ y ∈ ys, y.length < 2 ^ 63 := by
    clear hr hl
    induction rows with
    | nil => exact ⟨[], rfl, by simp⟩
    | cons r rows ih =>
      obtain ⟨ys, rfl, hys⟩ := ih fun r hr => hg r (by simp [hr])
      obtain ⟨_, y, hy, rfl⟩ := hg r (by simp)
      exact ⟨y :: ys, rfl, by simp only [List.mem_cons, forall_eq_or_imp]; exact ⟨hy, hys⟩⟩
  have c1 : Tryd.prog.cellsOf 42 = 1 := by kernel_rfl
  rw [c1] at hr
  exact ⟨ys, by simp only [List.length_map] at hl; omega, hy, hr⟩
end

set_option maxRecDepth 100000 in
theorem law_run (H : Type) (enc : TypeId × Value → H) (W : World) (base : Nat) (args : Array Value) (ds gs : List (DataW H)) (before : List MemPlace)
    (hval : ∀ (j : Nat) t v, Tryd.f3.params[j]? = some t → args[j]? = some v → Value.okWide Tryd.prog W .any base t v)
    (hW : DataW.Whole enc Tryd.prog Tryd.f3.params.toList Rows.tapeSameSpec.vars false W args.toList ds gs before) (hL : laidMetH Tryd.prog Rows.tapeSameRow.laid W) :
    Calls Tryd.prog 3 args W fun e W' => e = .returned (.bool true) ∧ Below W.heap.size W W' := by
  obtain ⟨p, q, hA0, hV, rfl, _, _⟩ := hW
  have hA : DataW.TrodAll enc Tryd.prog W 0 (fun _ => true) true Tryd.f3.params.toList args.toList ds p := hA0
  rw [Tryd.params3] at hA hval
  obtain ⟨v0, vs0, d0, ds0, p0, q0, hargs, rfl, rfl, h0, r0⟩ := trodAll_cons hA
  obtain ⟨v1, vs1, d1, ds1, p1, q1, rfl, rfl, rfl, h1, r1⟩ := trodAll_cons r0
  obtain ⟨v2, vs2, d2, ds2, p2, q2, rfl, rfl, rfl, h2, r2⟩ := trodAll_cons r1
  obtain ⟨rfl, rfl, rfl⟩ := trodAll_nil r2
  obtain rfl : args = #[v0, v1, v2] := by cases args; simp_all
  obtain ⟨_, h0⟩ := h0
  obtain ⟨_, h1⟩ := h1
  obtain ⟨_, h2⟩ := h2
  obtain ⟨a, ha, hal, ra⟩ := tapes_read h0
  obtain ⟨b, hb, _, rb⟩ := tapes_read h1
  obtain ⟨n, _, _, rn⟩ := Am.trod_intV (k := .i64) Tryd.underlying3 h2
  refine Am.law_calls (fn := Tryd.f3) (vs := [.slc .any 1 (a.map Am.rv), .slc .any 1 (b.map Am.rv), .sc (.int .i64 n)]) Am.call_all (globs hL) ?_ Tryd.func3 (by kernel_rfl) (by kernel_rfl) (Am.tapeSame_law a b n .any .any ha hb hal)
  rw [Am.cells_slice Tryd.underlying22 (hval 0 22 v0 rfl rfl)] at ra
  rw [Am.cells_slice Tryd.underlying22 (hval 1 22 v1 rfl rfl)] at rb
  rw [Am.cells_int Tryd.underlying3 (hval 2 3 v2 rfl rfl)] at rn
  have := (ra.append rb).append rn
  simpa using this

theorem spec_shape {H : Type} {enc : TypeId × Value → H} {W : World} {args : Array Value} {ds gs : List (DataW H)} {before : List MemPlace}
    (hW : DataW.Whole enc Tryd.prog Tryd.f3.params.toList Rows.tapeSameSpec.vars false W args.toList ds gs before) :
    (Rows.tapeSameSpec.fn H (ds ++ gs)).results = [.lit (.bool true)] ∧ (Rows.tapeSameSpec.fn H (ds ++ gs)).args = ds ∧ (Rows.tapeSameSpec.fn H (ds ++ gs)).vars = [] := by
  obtain ⟨p, q, hA0, hV, rfl, _, _⟩ := hW
  have hA : DataW.TrodAll enc Tryd.prog W 0 (fun _ => true) true Tryd.f3.params.toList args.toList ds p := hA0
  rw [Tryd.params3] at hA
  obtain ⟨rfl, rfl⟩ := trodVars_none hV
  obtain ⟨v0, vs0, d0, ds0, p0, q0, hargs, rfl, rfl, h0, r0⟩ := trodAll_cons hA
  obtain ⟨v1, vs1, d1, ds1, p1, q1, rfl, rfl, rfl, h1, r1⟩ := trodAll_cons r0
  obtain ⟨v2, vs2, d2, ds2, p2, q2, rfl, rfl, rfl, h2, r2⟩ := trodAll_cons r1
  obtain ⟨rfl, rfl, rfl⟩ := trodAll_nil r2
  exact ⟨rfl, rfl, rfl⟩

set_option maxRecDepth 100000 in
/-- WHAT THE WALK GIVES, FOR EVERY ARGUMENT AND EVERY WORLD THAT HOLDS THE TABLES. -/
theorem contract (H : Type) (enc : TypeId × Value → H) (W : World) (base : Nat) (args : Array Value) (ds gs : List (DataW H)) (before : List MemPlace)
    (hval : ∀ (j : Nat) t v, Tryd.f3.params[j]? = some t → args[j]? = some v → Value.okWide Tryd.prog W .any base t v)
    (hW : DataW.Whole enc Tryd.prog Tryd.f3.params.toList Rows.tapeSameSpec.vars false W args.toList ds gs before) (hL : laidMetH Tryd.prog Rows.tapeSameRow.laid W) :
    Calls Tryd.prog 3 args W fun e W' => ∃ v, e = .returned v ∧ Rows.tapeSameSpec.post enc Tryd.prog Tryd.f3 false true false false W args v W' := by
  have hrun := law_run H enc W base args ds gs before hval hW hL
  refine hrun.mono fun e W' he => ?_
  obtain ⟨rfl, hb⟩ := he
  exact ⟨_, rfl, Am.law_post (tb := 4) (gs := gs) (before := before) (by kernel_rfl) params_ok (by kernel_rfl) Tryd.underlying4 rfl (spec_shape hW) hW hb⟩

set_option maxRecDepth 100000 in
theorem laid_met (os : Os) (args : Array Value) : laidMet Tryd.prog Rows.tapeSameRow.laid ((World.laidAll Tryd.prog os Rows.tapeSameRow.laid).forCall (fun _ _ => 0) ⟨#[], args, []⟩).memory :=
  laidMet_laidAll _ (by kernel_rfl) (by kernel_rfl)
theorem reads (os : Os) {H : Type} (enc : TypeId × Value → H) : ∃ places, DataW.whole enc Tryd.prog ((World.laidAll Tryd.prog os Rows.tapeSameRow.laid).forCall (fun _ _ => 0) ⟨#[], #[.slice none 0 0, .slice none 0 0, .int .i64 0], []⟩).memory Tryd.f3.params.toList Rows.tapeSameSpec.vars false #[.slice none 0 0, .slice none 0 0, .int .i64 0].toList 8 = some ([.nil, .nil, .lit (.int .i64 0)], [], places) :=
  ⟨[], by kernel_rfl⟩

set_option maxRecDepth 100000 in
theorem lifted (os : Os) (started : os.Started) (H : Type) (enc : TypeId × Value → H) (F : Stop.Interp) :
    ReturnsInHanded {} Tryd.checked os 3 .any ((OpenSpec.ofChange Rows.tapeSameSpec).preRow enc Tryd.prog Tryd.f3 Rows.tapeSameRow.domain false Rows.tapeSameRow.laid) (((OpenSpec.ofChange Rows.tapeSameSpec).at F).post enc Tryd.prog Tryd.f3 false true false false) := by
  obtain ⟨places, hx⟩ := reads os enc
  refine returnsInHanded_of_row (C := Tryd.checked) (s := OpenSpec.ofChange Rows.tapeSameSpec) own started (by kernel_rfl) Tryd.func3
    (witness_row_at (enc := enc) (C := Tryd.checked) false (World.laidAll Tryd.prog os Rows.tapeSameRow.laid) #[.slice none 0 0, .slice none 0 0, .int .i64 0] (World.laidAll_os _ _ _) (by kernel_rfl) (by kernel_rfl) (by kernel_rfl)
      (OpenSpec.preRow_of_cond 8 hx (by kernel_rfl) (fun k hk => by cases hk) (by kernel_rfl) (laid_met os _))) ?_
  intro W base args ds gs before hval hW _ _ _ hL _ _
  exact contract H enc W base args ds gs before hval hW hL

theorem said : Rows.TapeSameSaid :=
  OpenClaim.holds_of_cond 3 Tryd.f3 rfl rfl rfl rfl rfl rfl rfl ⟨rfl, rfl, rfl, rfl, rfl⟩ rfl rfl rfl rfl rfl (by kernel_rfl) Tryd.func3 (by kernel_rfl)
    (of_decide_eq_true (by kernel_rfl)) (by unfold Func.isWrapper; first | (rw [if_pos (by decide +kernel)]; kernel_rfl) | (rw [if_neg (by decide +kernel)]; exact ⟨rfl, rfl⟩))
    (fun os started H enc _ F => by rw [OpenClaim.pre_eq_preRow]; exact lifted os started H enc F)

theorem plain (f : FuncId) (fn : Func) (hf : Tryd.pinned.checked.prog.funcNamed Rows.tapeSameRow.func = some f) (hfn : Tryd.pinned.checked.prog.funcs[f]? = some fn) :
    true = Tryd.pinned.checked.prog.looks [] ∧ ∀ (j : Nat) t, fn.params[j]? = some t → Tryd.pinned.checked.prog.wantsStandIn t = false := by
  obtain rfl : f = 3 := Option.some.inj ((show Tryd.prog.funcNamed Rows.tapeSameRow.func = some 3 by kernel_rfl).symm.trans hf) |>.symm
  obtain rfl : fn = Tryd.f3 := (Option.some.inj (Tryd.func3.symm.trans hfn)).symm
  refine ⟨by kernel_rfl, fun j t ht => ?_⟩
  have hall : (Tryd.f3.params.toList.all fun t => !Tryd.prog.wantsStandIn t) = true := by kernel_rfl
  have := List.all_eq_true.1 hall t (by
    rw [← Array.getElem?_toList] at ht
    exact List.mem_of_getElem? ht)
  show Tryd.prog.wantsStandIn t = false
  simpa using this

/-- THE CARD. -/
theorem card : Rows.TapeSameCardSaid :=
  Claim7.holds_tied_plain_at .later [] _ _ _ _ said (fun _ h => by cases h) (by kernel_rfl) (fun _ h => by cases h) tapeSame_row_tie rfl ⟨rfl, rfl⟩ (by kernel_rfl) rfl plain (by kernel_rfl)
end Go.Proofs.YtpjdfeplfbmgpaaDoor.fnTapeSame
namespace Go.Proofs.YtpjdfeplfbmgpaaDoor
theorem tapeSame_card : Rows.TapeSameCardSaid := fnTapeSame.card
end Go.Proofs.YtpjdfeplfbmgpaaDoor
