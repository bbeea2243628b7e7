/- For every pick, the law spinnakerlaw20.SimNobody returns true and leaves its argument as it was; the listed table holds what the program's text lays (the card ties that). -/
import Derived.Test.YtmlidlbchidgdaaGreatDoorAm7
import Derived.Test.YtmlidlbchidgdaaGreatDoorCards
import Derived.Test.YtmlidlbchidgdaaGreatDoorTie
import Derived.Test.YtmlidlbchidgdaaGreatDoorTSim
import Derived.WalkKit
import Derived.ProofKit
import Derived.OpenShut
import Derived.Deep.DeepHandedRow
import Derived.Lib.LaidTab
import Derived.MakeChecks
import Derived.Lay
set_option linter.unusedSimpArgs false
namespace Go.Proofs.YtmlidlbchidgdaaGreatDoor.fnSimNobody
open Go.ChangeShapes Go.WideShapes Go.ChangeAt Go.RowKit

theorem own : ownKnob Tryz.prog.godebug = none := by kernel_rfl
theorem gn_0 : Tryz.prog.globalNamed "spinnaker/isa.names" = some 0 := by kernel_rfl
theorem globs {W : World} (hL : laidMetH Tryz.prog Rows.simNobodyRow.laid W) : Am.GlobOk (Am.start W) Am.glT := by
  rw [MakeChecks.laidMetH_plain _ _ _ (by kernel_rfl)] at hL
  intro g cs h
  unfold Am.glT at h
  by_cases e : g = 0
  · rw [if_pos e] at h; injection h with h; subst e; subst h
    exact Am.glob_tab (d := Rows.laid_spinnaker_isa_names) hL (by simp [Rows.simNobodyRow]) gn_0 (t := 200) (by kernel_rfl) Tryz.underlying200 (by kernel_rfl) (by kernel_rfl) (by kernel_rfl)
  rw [if_neg e] at h; clear e
  simp at h

set_option maxRecDepth 100000 in
theorem law_of : ∀ avs, Am.Each (Am.ArgShp Tryz.prog) [34] avs → Am.WpF Am.S0 0 7 avs [] fun v _ => v = .bool true := by
  intro avs h
  match avs, h with
  | [a], ⟨⟨n, vs, h, e⟩, _⟩ =>
    rw [Tryz.underlying34] at e
    simp only at e
    obtain ⟨k, rfl, h⟩ := h.struct Tryz.underlying34
    obtain ⟨a0, r0, rfl, _, q0, a1, r1, rfl, _, q1, a2, r2, rfl, _, q2, rfl⟩ := h
    obtain ⟨x, _, _, rfl⟩ := q0.int Tryz.underlying3
    obtain ⟨y, _, _, rfl⟩ := q1.int Tryz.underlying3
    obtain ⟨z, _, _, rfl⟩ := q2.int Tryz.underlying3
    subst e
    exact Am.simNobody_law x y z
theorem params_ok : ∀ t ∈ Tryz.f7.params.toList, Tryz.prog.readableRec t = true ∧ t < Tryz.prog.types.size := by
  have h : (Tryz.f7.params.toList.all fun t => Tryz.prog.readableRec t && decide (t < Tryz.prog.types.size)) = true := by kernel_rfl
  intro t ht
  have := List.all_eq_true.1 h t ht
  simpa using this
theorem tys_ok : Am.chkTy Tryz.prog [3, 34] = true := by kernel_rfl
theorem params_in : ∀ t ∈ Tryz.f7.params.toList, t ∈ [3, 34] := by
  rw [Tryz.params7]
  decide
set_option maxRecDepth 100000 in
theorem law_run (H : Type) (enc : TypeId × Value → H) (W : World) (base : Nat) (args : Array Value) (ds gs : List (DataW H)) (before : List MemPlace)
    (hval : ∀ (j : Nat) t v, Tryz.f7.params[j]? = some t → args[j]? = some v → Value.okWide Tryz.prog W .any base t v)
    (hW : DataW.Whole enc Tryz.prog Tryz.f7.params.toList Rows.simNobodySpec.vars false W args.toList ds gs before) (hL : laidMetH Tryz.prog Rows.simNobodyRow.laid W) :
    Calls Tryz.prog 7 args W fun e W' => e = .returned (.bool true) ∧ Below W.heap.size W W' := by
  obtain ⟨p, q, hA0, hV, rfl, _, _⟩ := hW
  have hA : DataW.TrodAll enc Tryz.prog W 0 (fun _ => true) true Tryz.f7.params.toList args.toList ds p := hA0
  obtain ⟨avs, h1, h2, _⟩ := Am.args_shp tys_ok params_in hA (fun j t v a b => hval j t v (by simpa using a) (by simpa using b))
  rw [Tryz.params7] at h2
  exact Am.law_calls (fn := Tryz.f7) (vs := avs) Am.call_all (globs hL) h1 Tryz.func7 (by kernel_rfl) (by kernel_rfl) (law_of avs h2)
theorem spec_shape {H : Type} {enc : TypeId × Value → H} {W : World} {args : Array Value} {ds gs : List (DataW H)} {before : List MemPlace}
    (hW : DataW.Whole enc Tryz.prog Tryz.f7.params.toList Rows.simNobodySpec.vars false W args.toList ds gs before) :
    (Rows.simNobodySpec.fn H (ds ++ gs)).results = [.lit (.bool true)] ∧ (Rows.simNobodySpec.fn H (ds ++ gs)).args = ds ∧ (Rows.simNobodySpec.fn H (ds ++ gs)).vars = [] := by
  obtain ⟨p, q, hA0, hV, rfl, _, _⟩ := hW
  have hA : DataW.TrodAll enc Tryz.prog W 0 (fun _ => true) true Tryz.f7.params.toList args.toList ds p := hA0
  rw [Tryz.params7] at hA
  obtain ⟨rfl, rfl⟩ := trodVars_none hV
  obtain ⟨v0, vs0, d0, ds0, p0, q0, hargs, rfl, rfl, h0, r0⟩ := trodAll_cons hA
  obtain ⟨rfl, rfl, rfl⟩ := trodAll_nil r0
  exact ⟨rfl, rfl, rfl⟩


set_option maxRecDepth 100000 in
/-- WHAT THE WALK GIVES, FOR EVERY ARGUMENT AND EVERY WORLD THAT HOLDS THE TABLES. -/
theorem contract (H : Type) (enc : TypeId × Value → H) (W : World) (base : Nat) (args : Array Value) (ds gs : List (DataW H)) (before : List MemPlace)
    (hval : ∀ (j : Nat) t v, Tryz.f7.params[j]? = some t → args[j]? = some v → Value.okWide Tryz.prog W .any base t v)
    (hW : DataW.Whole enc Tryz.prog Tryz.f7.params.toList Rows.simNobodySpec.vars false W args.toList ds gs before) (hL : laidMetH Tryz.prog Rows.simNobodyRow.laid W) :
    Calls Tryz.prog 7 args W fun e W' => ∃ v, e = .returned v ∧ Rows.simNobodySpec.post enc Tryz.prog Tryz.f7 false true false false W args v W' := by
  have hrun := law_run H enc W base args ds gs before hval hW hL
  refine hrun.mono fun e W' he => ?_
  obtain ⟨rfl, hb⟩ := he
  exact ⟨_, rfl, Am.law_post (tb := 4) (gs := gs) (before := before) (by kernel_rfl) params_ok (by kernel_rfl) Tryz.underlying4 rfl (spec_shape hW) hW hb⟩

set_option maxRecDepth 100000 in
theorem laid_met (os : Os) (args : Array Value) : laidMet Tryz.prog Rows.simNobodyRow.laid ((World.laidAll Tryz.prog os Rows.simNobodyRow.laid).forCall (fun _ _ => 0) ⟨#[], args, []⟩).memory :=
  laidMet_laidAll _ (by kernel_rfl) (by kernel_rfl)
theorem reads (os : Os) {H : Type} (enc : TypeId × Value → H) : ∃ places, DataW.whole enc Tryz.prog ((World.laidAll Tryz.prog os Rows.simNobodyRow.laid).forCall (fun _ _ => 0) ⟨#[], #[.agg #[.int .i64 0, .int .i64 0, .int .i64 0]], []⟩).memory Tryz.f7.params.toList Rows.simNobodySpec.vars false #[.agg #[.int .i64 0, .int .i64 0, .int .i64 0]].toList 8 = some ([.agg [.lit (.int .i64 0), .lit (.int .i64 0), .lit (.int .i64 0)]], [], places) :=
  ⟨[], by kernel_rfl⟩

set_option maxRecDepth 100000 in
theorem lifted (os : Os) (started : os.Started) (H : Type) (enc : TypeId × Value → H) (F : Stop.Interp) :
    ReturnsInHanded {} Tryz.checked os 7 .any ((OpenSpec.ofChange Rows.simNobodySpec).preRow enc Tryz.prog Tryz.f7 Rows.simNobodyRow.domain false Rows.simNobodyRow.laid) (((OpenSpec.ofChange Rows.simNobodySpec).at F).post enc Tryz.prog Tryz.f7 false true false false) := by
  obtain ⟨places, hx⟩ := reads os enc
  refine returnsInHanded_of_row (C := Tryz.checked) (s := OpenSpec.ofChange Rows.simNobodySpec) own started (by kernel_rfl) Tryz.func7
    (witness_row_at (enc := enc) (C := Tryz.checked) false (World.laidAll Tryz.prog os Rows.simNobodyRow.laid) #[.agg #[.int .i64 0, .int .i64 0, .int .i64 0]] (World.laidAll_os _ _ _) (by kernel_rfl) (by kernel_rfl) (by kernel_rfl)
      (OpenSpec.preRow_of_cond 8 hx (by kernel_rfl) (fun k hk => by cases hk) (by kernel_rfl) (laid_met os _))) ?_
  intro W base args ds gs before hval hW _ _ _ hL _ _
  exact contract H enc W base args ds gs before hval hW hL

theorem said : Rows.SimNobodySaid :=
  OpenClaim.holds_of_cond 7 Tryz.f7 rfl rfl rfl rfl rfl rfl rfl ⟨rfl, rfl, rfl, rfl, rfl⟩ rfl rfl rfl rfl rfl (by kernel_rfl) Tryz.func7 (by kernel_rfl)
    (of_decide_eq_true (by kernel_rfl)) (by unfold Func.isWrapper; first | (rw [if_pos (by decide +kernel)]; kernel_rfl) | (rw [if_neg (by decide +kernel)]; exact ⟨rfl, rfl⟩))
    (fun os started H enc _ F => by rw [OpenClaim.pre_eq_preRow]; exact lifted os started H enc F)

theorem plain (f : FuncId) (fn : Func) (hf : Tryz.pinned.checked.prog.funcNamed Rows.simNobodyRow.func = some f) (hfn : Tryz.pinned.checked.prog.funcs[f]? = some fn) :
    false = Tryz.pinned.checked.prog.looks [] ∧ ∀ (j : Nat) t, fn.params[j]? = some t → Tryz.pinned.checked.prog.wantsStandIn t = false := by
  obtain rfl : f = 7 := Option.some.inj ((show Tryz.prog.funcNamed Rows.simNobodyRow.func = some 7 by kernel_rfl).symm.trans hf) |>.symm
  obtain rfl : fn = Tryz.f7 := (Option.some.inj (Tryz.func7.symm.trans hfn)).symm
  refine ⟨by kernel_rfl, fun j t ht => ?_⟩
  have hall : (Tryz.f7.params.toList.all fun t => !Tryz.prog.wantsStandIn t) = true := by kernel_rfl
  have := List.all_eq_true.1 hall t (by
    rw [← Array.getElem?_toList] at ht
    exact List.mem_of_getElem? ht)
  show Tryz.prog.wantsStandIn t = false
  simpa using this

/-- THE CARD. -/
theorem card : Rows.SimNobodyCardSaid :=
  Claim7.holds_tied_plain_at .later [] _ _ _ _ said (fun _ h => by cases h) (by kernel_rfl) (fun _ h => by cases h) simNobody_row_tie rfl ⟨rfl, rfl⟩ (by kernel_rfl) rfl plain (by kernel_rfl)
end Go.Proofs.YtmlidlbchidgdaaGreatDoor.fnSimNobody
namespace Go.Proofs.YtmlidlbchidgdaaGreatDoor
theorem simNobody_card : Rows.SimNobodyCardSaid := fnSimNobody.card
end Go.Proofs.YtmlidlbchidgdaaGreatDoor
