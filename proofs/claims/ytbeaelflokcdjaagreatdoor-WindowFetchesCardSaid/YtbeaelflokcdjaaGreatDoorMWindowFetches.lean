/- For every image and any two numbers, the law spinnakerlaw19.WindowFetches returns true and leaves its arguments as they were; the listed table holds what the program's text lays (the card ties that). -/
import Derived.Test.YtbeaelflokcdjaaGreatDoorAm13
import Derived.Test.YtbeaelflokcdjaaGreatDoorCards
import Derived.Test.YtbeaelflokcdjaaGreatDoorTie
import Derived.Test.YtbeaelflokcdjaaGreatDoorTWin
import Derived.WalkKit
import Derived.ProofKit
import Derived.OpenShut
import Derived.Deep.DeepHandedRow
import Derived.Lib.LaidTab
import Derived.MakeChecks
import Derived.Lay
set_option linter.unusedSimpArgs false
namespace Go.Proofs.YtbeaelflokcdjaaGreatDoor.fnWindowFetches
open Go.ChangeShapes Go.WideShapes Go.ChangeAt Go.RowKit

theorem own : ownKnob Tryz.prog.godebug = none := by kernel_rfl
theorem gn_0 : Tryz.prog.globalNamed "spinnaker/isa.names" = some 0 := by kernel_rfl
theorem globs {W : World} (hL : laidMetH Tryz.prog Rows.windowFetchesRow.laid W) : Am.GlobOk (Am.start W) Am.glT := by
  rw [MakeChecks.laidMetH_plain _ _ _ (by kernel_rfl)] at hL
  intro g cs h
  unfold Am.glT at h
  by_cases e : g = 0
  · rw [if_pos e] at h; injection h with h; subst e; subst h
    exact Am.glob_tab (d := Rows.laid_spinnaker_isa_names) hL (by simp [Rows.windowFetchesRow]) gn_0 (t := 132) (by kernel_rfl) Tryz.underlying132 (by kernel_rfl) (by kernel_rfl) (by kernel_rfl)
  rw [if_neg e] at h; clear e
  simp at h

set_option maxRecDepth 100000 in
theorem words_of : ∀ (m : Nat) (rows : List (List Am.V)), (∀ r ∈ rows, Am.Shp Tryz.prog m 42 r) → ∃ ws : List Nat, rows = Am.wrd ws ∧ ∀ w ∈ ws, w < 2 ^ 32 := by
  intro m rows
  induction rows with
  | nil => exact fun _ => ⟨[], rfl, fun _ h => by cases h⟩
  | cons r rows ih =>
    intro h
    obtain ⟨ws, rfl, hw⟩ := ih fun x hx => h x (by simp [hx])
    obtain ⟨x, h0, h1, rfl⟩ := (h r (by simp)).int Tryz.underlying42
    have e0 : (0 : Int) ≤ x := h0
    have e1 : x ≤ 4294967295 := h1
    refine ⟨x.toNat :: ws, ?_, ?_⟩
    · have e : ((x.toNat : Nat) : Int) = x := by omega
      show _ = [Am.U32 x.toNat] :: _
      unfold Am.U32
      rw [e]
    · intro w hw'
      rcases List.mem_cons.1 hw' with rfl | q
      · omega
      · exact hw w q
set_option maxRecDepth 100000 in
theorem law_of : ∀ avs, Am.Each (Am.ArgShp Tryz.prog) [25, 3, 3] avs → Am.WpF Am.S0 0 3 avs [] fun v _ => v = .bool true := by
  intro avs h
  match avs, h with
  | [a, b, c], ⟨⟨n, vs, h, e⟩, ⟨n2, vs2, h2, e2⟩, ⟨n3, vs3, h3, e3⟩, _⟩ =>
    rw [Tryz.underlying25] at e
    rw [Tryz.underlying3] at e2 e3
    simp only at e e2 e3
    obtain ⟨k, rfl, h⟩ := h.struct Tryz.underlying25
    obtain ⟨a0, r0, rfl, _, q0, a1, r1, rfl, _, q1, a2, r2, rfl, _, q2, rfl⟩ := h
    obtain ⟨ra, m0, rfl, rfl, _, hr⟩ := q0.slc Tryz.underlying22
    obtain ⟨rb, m1, _, rfl, _, _⟩ := q1.slc Tryz.underlying23
    obtain ⟨rc, m2, _, rfl, _, _⟩ := q2.slc Tryz.underlying23
    obtain ⟨x, _, _, rfl⟩ := h2.int Tryz.underlying3
    obtain ⟨y, _, _, rfl⟩ := h3.int Tryz.underlying3
    have c1 : Tryz.prog.cellsOf 42 = 1 := by kernel_rfl
    have c2 : Tryz.prog.cellsOf 3 = 1 := by kernel_rfl
    obtain ⟨ws, rfl, hw⟩ := words_of _ ra hr
    injection e2 with e2 _
    injection e3 with e3 _
    subst e e2 e3
    rw [c1, c2]
    exact Am.windowFetches_law ws rb rc x y hw
theorem params_ok : ∀ t ∈ Tryz.f3.params.toList, Tryz.prog.readableRec t = true ∧ t < Tryz.prog.types.size := by
  have h : (Tryz.f3.params.toList.all fun t => Tryz.prog.readableRec t && decide (t < Tryz.prog.types.size)) = true := by kernel_rfl
  intro t ht
  have := List.all_eq_true.1 h t ht
  simpa using this
theorem tys_ok : Am.chkTy Tryz.prog [3, 22, 23, 25, 42] = true := by kernel_rfl
theorem params_in : ∀ t ∈ Tryz.f3.params.toList, t ∈ [3, 22, 23, 25, 42] := by
  rw [Tryz.params3]
  decide
set_option maxRecDepth 100000 in
theorem law_run (H : Type) (enc : TypeId × Value → H) (W : World) (base : Nat) (args : Array Value) (ds gs : List (DataW H)) (before : List MemPlace)
    (hval : ∀ (j : Nat) t v, Tryz.f3.params[j]? = some t → args[j]? = some v → Value.okWide Tryz.prog W .any base t v)
    (hW : DataW.Whole enc Tryz.prog Tryz.f3.params.toList Rows.windowFetchesSpec.vars false W args.toList ds gs before) (hL : laidMetH Tryz.prog Rows.windowFetchesRow.laid W) :
    Calls Tryz.prog 3 args W fun e W' => e = .returned (.bool true) ∧ Below W.heap.size W W' := by
  obtain ⟨p, q, hA0, hV, rfl, _, _⟩ := hW
  have hA : DataW.TrodAll enc Tryz.prog W 0 (fun _ => true) true Tryz.f3.params.toList args.toList ds p := hA0
  obtain ⟨avs, h1, h2, _⟩ := Am.args_shp tys_ok params_in hA (fun j t v a b => hval j t v (by simpa using a) (by simpa using b))
  rw [Tryz.params3] at h2
  exact Am.law_calls (fn := Tryz.f3) (vs := avs) Am.call_all (globs hL) h1 Tryz.func3 (by kernel_rfl) (by kernel_rfl) (law_of avs h2)
theorem spec_shape {H : Type} {enc : TypeId × Value → H} {W : World} {args : Array Value} {ds gs : List (DataW H)} {before : List MemPlace}
    (hW : DataW.Whole enc Tryz.prog Tryz.f3.params.toList Rows.windowFetchesSpec.vars false W args.toList ds gs before) :
    (Rows.windowFetchesSpec.fn H (ds ++ gs)).results = [.lit (.bool true)] ∧ (Rows.windowFetchesSpec.fn H (ds ++ gs)).args = ds ∧ (Rows.windowFetchesSpec.fn H (ds ++ gs)).vars = [] := by
  obtain ⟨p, q, hA0, hV, rfl, _, _⟩ := hW
  have hA : DataW.TrodAll enc Tryz.prog W 0 (fun _ => true) true Tryz.f3.params.toList args.toList ds p := hA0
  rw [Tryz.params3] at hA
  obtain ⟨rfl, rfl⟩ := trodVars_none hV
  obtain ⟨v0, vs0, d0, ds0, p0, q0, hargs, rfl, rfl, h0, r0⟩ := trodAll_cons hA
  obtain ⟨v1, vs1, d1, ds1, p1, q1, rfl, rfl, rfl, h1, r1⟩ := trodAll_cons r0
  obtain ⟨v2, vs2, d2, ds2, p2, q2, rfl, rfl, rfl, h2, r2⟩ := trodAll_cons r1
  obtain ⟨rfl, rfl, rfl⟩ := trodAll_nil r2
  exact ⟨rfl, rfl, rfl⟩


set_option maxRecDepth 100000 in
/-- WHAT THE WALK GIVES, FOR EVERY ARGUMENT AND EVERY WORLD THAT HOLDS THE TABLES. -/
theorem contract (H : Type) (enc : TypeId × Value → H) (W : World) (base : Nat) (args : Array Value) (ds gs : List (DataW H)) (before : List MemPlace)
    (hval : ∀ (j : Nat) t v, Tryz.f3.params[j]? = some t → args[j]? = some v → Value.okWide Tryz.prog W .any base t v)
    (hW : DataW.Whole enc Tryz.prog Tryz.f3.params.toList Rows.windowFetchesSpec.vars false W args.toList ds gs before) (hL : laidMetH Tryz.prog Rows.windowFetchesRow.laid W) :
    Calls Tryz.prog 3 args W fun e W' => ∃ v, e = .returned v ∧ Rows.windowFetchesSpec.post enc Tryz.prog Tryz.f3 false true false false W args v W' := by
  have hrun := law_run H enc W base args ds gs before hval hW hL
  refine hrun.mono fun e W' he => ?_
  obtain ⟨rfl, hb⟩ := he
  exact ⟨_, rfl, Am.law_post (tb := 4) (gs := gs) (before := before) (by kernel_rfl) params_ok (by kernel_rfl) Tryz.underlying4 rfl (spec_shape hW) hW hb⟩

set_option maxRecDepth 100000 in
theorem laid_met (os : Os) (args : Array Value) : laidMet Tryz.prog Rows.windowFetchesRow.laid ((World.laidAll Tryz.prog os Rows.windowFetchesRow.laid).forCall (fun _ _ => 0) ⟨#[], args, []⟩).memory :=
  laidMet_laidAll _ (by kernel_rfl) (by kernel_rfl)
theorem reads (os : Os) {H : Type} (enc : TypeId × Value → H) : ∃ places, DataW.whole enc Tryz.prog ((World.laidAll Tryz.prog os Rows.windowFetchesRow.laid).forCall (fun _ _ => 0) ⟨#[], #[.agg #[.slice none 0 0, .slice none 0 0, .slice none 0 0], .int .i64 0, .int .i64 0], []⟩).memory Tryz.f3.params.toList Rows.windowFetchesSpec.vars false #[.agg #[.slice none 0 0, .slice none 0 0, .slice none 0 0], .int .i64 0, .int .i64 0].toList 8 = some ([.agg [.nil, .nil, .nil], .lit (.int .i64 0), .lit (.int .i64 0)], [], places) :=
  ⟨[], by kernel_rfl⟩

set_option maxRecDepth 100000 in
theorem lifted (os : Os) (started : os.Started) (H : Type) (enc : TypeId × Value → H) (F : Stop.Interp) :
    ReturnsInHanded {} Tryz.checked os 3 .any ((OpenSpec.ofChange Rows.windowFetchesSpec).preRow enc Tryz.prog Tryz.f3 Rows.windowFetchesRow.domain false Rows.windowFetchesRow.laid) (((OpenSpec.ofChange Rows.windowFetchesSpec).at F).post enc Tryz.prog Tryz.f3 false true false false) := by
  obtain ⟨places, hx⟩ := reads os enc
  refine returnsInHanded_of_row (C := Tryz.checked) (s := OpenSpec.ofChange Rows.windowFetchesSpec) own started (by kernel_rfl) Tryz.func3
    (witness_row_at (enc := enc) (C := Tryz.checked) false (World.laidAll Tryz.prog os Rows.windowFetchesRow.laid) #[.agg #[.slice none 0 0, .slice none 0 0, .slice none 0 0], .int .i64 0, .int .i64 0] (World.laidAll_os _ _ _) (by kernel_rfl) (by kernel_rfl) (by kernel_rfl)
      (OpenSpec.preRow_of_cond 8 hx (by kernel_rfl) (fun k hk => by cases hk) (by kernel_rfl) (laid_met os _))) ?_
  intro W base args ds gs before hval hW _ _ _ hL _ _
  exact contract H enc W base args ds gs before hval hW hL

theorem said : Rows.WindowFetchesSaid :=
  OpenClaim.holds_of_cond 3 Tryz.f3 rfl rfl rfl rfl rfl rfl rfl ⟨rfl, rfl, rfl, rfl, rfl⟩ rfl rfl rfl rfl rfl (by kernel_rfl) Tryz.func3 (by kernel_rfl)
    (of_decide_eq_true (by kernel_rfl)) (by unfold Func.isWrapper; first | (rw [if_pos (by decide +kernel)]; kernel_rfl) | (rw [if_neg (by decide +kernel)]; exact ⟨rfl, rfl⟩))
    (fun os started H enc _ F => by rw [OpenClaim.pre_eq_preRow]; exact lifted os started H enc F)

theorem plain (f : FuncId) (fn : Func) (hf : Tryz.pinned.checked.prog.funcNamed Rows.windowFetchesRow.func = some f) (hfn : Tryz.pinned.checked.prog.funcs[f]? = some fn) :
    false = Tryz.pinned.checked.prog.looks [] ∧ ∀ (j : Nat) t, fn.params[j]? = some t → Tryz.pinned.checked.prog.wantsStandIn t = false := by
  obtain rfl : f = 3 := Option.some.inj ((show Tryz.prog.funcNamed Rows.windowFetchesRow.func = some 3 by kernel_rfl).symm.trans hf) |>.symm
  obtain rfl : fn = Tryz.f3 := (Option.some.inj (Tryz.func3.symm.trans hfn)).symm
  refine ⟨by kernel_rfl, fun j t ht => ?_⟩
  have hall : (Tryz.f3.params.toList.all fun t => !Tryz.prog.wantsStandIn t) = true := by kernel_rfl
  have := List.all_eq_true.1 hall t (by
    rw [← Array.getElem?_toList] at ht
    exact List.mem_of_getElem? ht)
  show Tryz.prog.wantsStandIn t = false
  simpa using this

/-- THE CARD. -/
theorem card : Rows.WindowFetchesCardSaid :=
  Claim7.holds_tied_plain_at .later [] _ _ _ _ said (fun _ h => by cases h) (by kernel_rfl) (fun _ h => by cases h) windowFetches_row_tie rfl ⟨rfl, rfl⟩ (by kernel_rfl) rfl plain (by kernel_rfl)
end Go.Proofs.YtbeaelflokcdjaaGreatDoor.fnWindowFetches
namespace Go.Proofs.YtbeaelflokcdjaaGreatDoor
theorem windowFetches_card : Rows.WindowFetchesCardSaid := fnWindowFetches.card
end Go.Proofs.YtbeaelflokcdjaaGreatDoor
