/- For every tree and any two names, the law spinnakerlaw25.CheckRenames returns true and leaves its arguments as they were; the listed tables hold what the program's text lays (the card ties that). -/
import Derived.Test.YtjjgpjlfnendaaaDoorAm16
import Derived.Test.YtjjgpjlfnendaaaDoorCards
import Derived.Test.YtjjgpjlfnendaaaDoorTie
import Derived.Test.YtjjgpjlfnendaaaDoorTChk
import Derived.WalkKit
import Derived.ProofKit
import Derived.OpenShut
import Derived.Deep.DeepHandedRow
import Derived.Lib.LaidTab
import Derived.MakeChecks
import Derived.Lay
set_option linter.unusedSimpArgs false
namespace Go.Proofs.YtjjgpjlfnendaaaDoor.fnCheckRenames
open Go.ChangeShapes Go.WideShapes Go.ChangeAt Go.RowKit

theorem own : ownKnob Tryd.prog.godebug = none := by kernel_rfl
theorem gn_0 : Tryd.prog.globalNamed "spinnaker/lex.words" = some 0 := by kernel_rfl
theorem globs {W : World} (hL : laidMetH Tryd.prog Rows.checkRenamesRow.laid W) : Am.GlobOk (Am.start W) Am.glT := by
  rw [MakeChecks.laidMetH_plain _ _ _ (by kernel_rfl)] at hL
  intro g cs h
  unfold Am.glT at h
  by_cases e : g = 0
  · rw [if_pos e] at h; injection h with h; subst e; subst h
    exact Am.glob_tab (d := Rows.laid_spinnaker_lex_words) hL (by simp [Rows.checkRenamesRow]) gn_0 (t := 93) (by kernel_rfl) Tryd.underlying93 (by kernel_rfl) (by kernel_rfl) (by kernel_rfl)
  rw [if_neg e] at h; clear e
  simp at h

set_option maxRecDepth 100000 in
theorem node_of : ∀ (n : Nat) (vs : List Am.V), Am.Shp Tryd.prog n 24 vs → ∃ x : Am.Nd, Am.NdV x vs ∧ Am.mxN x ≤ 2 ^ 63 := by
  intro n
  induction n using Nat.strongRecOn with
  | _ n ih =>
    intro vs h
    obtain ⟨k, rfl, h⟩ := h.struct Tryd.underlying24
    obtain ⟨a0, r0, rfl, _, h0, a1, r1, rfl, _, h1, a2, r2, rfl, _, h2, a3, r3, rfl, _, h3, a4, r4, rfl, _, h4, a5, r5, rfl, _, h5, a6, r6, rfl, _, h6, rfl⟩ := h
    obtain ⟨x0, _, _, rfl⟩ := h0.int Tryd.underlying3
    obtain ⟨x1, b1, rfl⟩ := h1.str Tryd.underlying9
    obtain ⟨x2, b2, rfl⟩ := h2.str Tryd.underlying9
    obtain ⟨x3, _, _, rfl⟩ := h3.int Tryd.underlying3
    obtain ⟨x4, _, _, rfl⟩ := h4.int Tryd.underlying3
    obtain ⟨x5, _, _, rfl⟩ := h5.int Tryd.underlying3
    obtain ⟨rows, m, rfl, rfl, hlen, hr⟩ := h6.slc Tryd.underlying22
    have c1 : Tryd.prog.cellsOf 24 = 7 := by kernel_rfl
    rw [c1]
    have hml : Go.maxLen = 2 ^ 63 - 1 := rfl
    have aux : ∀ rows : List (List Am.V), (∀ r ∈ rows, Am.Shp Tryd.prog m 24 r) → ∃ l : List Am.Nd, Am.NdR l rows ∧ Am.mxL l ≤ 2 ^ 63 := by
      intro rows
      induction rows with
      | nil => exact fun _ => ⟨[], by simp [Am.NdR], by simp [Am.mxL]⟩
      | cons r rows ih2 =>
        intro hr
        obtain ⟨l, q1, q2⟩ := ih2 fun r hr' => hr r (by simp [hr'])
        obtain ⟨x, p1, p2⟩ := ih m (by omega) r (hr r (by simp))
        exact ⟨x :: l, by simp only [Am.NdR]; exact ⟨r, rows, rfl, p1, q1⟩, by simp only [Am.mxL]; omega⟩
    obtain ⟨l, hl1, hl2⟩ := aux rows hr
    refine ⟨.mk x0 x1 x2 x3 x4 x5 l, ?_, by simp only [Am.mxN]; omega⟩
    refine ⟨.slc .any 7 rows, rfl, .inr ⟨.any, rows, rfl, hl1, ?_⟩⟩
    rw [← hl1.len]
    omega
set_option maxRecDepth 100000 in
theorem law_of : ∀ avs, Am.Each (Am.ArgShp Tryd.prog) [24, 9, 9] avs → Am.WpF Am.S0 0 4 avs [] fun v _ => v = .bool true := by
  intro avs h
  match avs, h with
  | [a, b, c], ⟨⟨n, vs, h, e⟩, ⟨n2, vs2, h2, e2⟩, ⟨n3, vs3, h3, e3⟩, _⟩ =>
    rw [Tryd.underlying24] at e
    rw [Tryd.underlying9] at e2 e3
    simp only at e e2 e3
    subst e
    obtain ⟨x, hx, hm⟩ := node_of n vs h
    obtain ⟨s, _, hs⟩ := h2.str Tryd.underlying9
    obtain ⟨t, _, ht⟩ := h3.str Tryd.underlying9
    obtain rfl : b = .sc (.string s) := by rw [hs] at e2; injection e2 with e2 _; exact e2.symm
    obtain rfl : c = .sc (.string t) := by rw [ht] at e3; injection e3 with e3 _; exact e3.symm
    exact Am.renames_law hx hm s t
theorem params_ok : ∀ t ∈ Tryd.f4.params.toList, Tryd.prog.readableRec t = true ∧ t < Tryd.prog.types.size := by
  have h : (Tryd.f4.params.toList.all fun t => Tryd.prog.readableRec t && decide (t < Tryd.prog.types.size)) = true := by kernel_rfl
  intro t ht
  have := List.all_eq_true.1 h t ht
  simpa using this
theorem tys_ok : Am.chkTy Tryd.prog [3, 9, 22, 24] = true := by kernel_rfl
theorem params_in : ∀ t ∈ Tryd.f4.params.toList, t ∈ [3, 9, 22, 24] := by
  rw [Tryd.params4]
  decide
set_option maxRecDepth 100000 in
theorem law_run (H : Type) (enc : TypeId × Value → H) (W : World) (base : Nat) (args : Array Value) (ds gs : List (DataW H)) (before : List MemPlace)
    (hval : ∀ (j : Nat) t v, Tryd.f4.params[j]? = some t → args[j]? = some v → Value.okWide Tryd.prog W .any base t v)
    (hW : DataW.Whole enc Tryd.prog Tryd.f4.params.toList Rows.checkRenamesSpec.vars false W args.toList ds gs before) (hL : laidMetH Tryd.prog Rows.checkRenamesRow.laid W) :
    Calls Tryd.prog 4 args W fun e W' => e = .returned (.bool true) ∧ Below W.heap.size W W' := by
  obtain ⟨p, q, hA0, hV, rfl, _, _⟩ := hW
  have hA : DataW.TrodAll enc Tryd.prog W 0 (fun _ => true) true Tryd.f4.params.toList args.toList ds p := hA0
  obtain ⟨avs, h1, h2, _⟩ := Am.args_shp tys_ok params_in hA (fun j t v a b => hval j t v (by simpa using a) (by simpa using b))
  rw [Tryd.params4] at h2
  exact Am.law_calls (fn := Tryd.f4) (vs := avs) Am.call_all (globs hL) h1 Tryd.func4 (by kernel_rfl) (by kernel_rfl) (law_of avs h2)
theorem spec_shape {H : Type} {enc : TypeId × Value → H} {W : World} {args : Array Value} {ds gs : List (DataW H)} {before : List MemPlace}
    (hW : DataW.Whole enc Tryd.prog Tryd.f4.params.toList Rows.checkRenamesSpec.vars false W args.toList ds gs before) :
    (Rows.checkRenamesSpec.fn H (ds ++ gs)).results = [.lit (.bool true)] ∧ (Rows.checkRenamesSpec.fn H (ds ++ gs)).args = ds ∧ (Rows.checkRenamesSpec.fn H (ds ++ gs)).vars = [] := by
  obtain ⟨p, q, hA0, hV, rfl, _, _⟩ := hW
  have hA : DataW.TrodAll enc Tryd.prog W 0 (fun _ => true) true Tryd.f4.params.toList args.toList ds p := hA0
  rw [Tryd.params4] at hA
  obtain ⟨rfl, rfl⟩ := trodVars_none hV
  obtain ⟨v0, vs0, d0, ds0, p0, q0, hargs, rfl, rfl, h0, r0⟩ := trodAll_cons hA
  obtain ⟨v1, vs1, d1, ds1, p1, q1, rfl, rfl, rfl, h1, r1⟩ := trodAll_cons r0
  obtain ⟨v2, vs2, d2, ds2, p2, q2, rfl, rfl, rfl, h2, r2⟩ := trodAll_cons r1
  obtain ⟨rfl, rfl, rfl⟩ := trodAll_nil r2
  exact ⟨rfl, rfl, rfl⟩


set_option maxRecDepth 100000 in
/-- WHAT THE WALK GIVES, FOR EVERY ARGUMENT AND EVERY WORLD THAT HOLDS THE TABLES. -/
theorem contract (H : Type) (enc : TypeId × Value → H) (W : World) (base : Nat) (args : Array Value) (ds gs : List (DataW H)) (before : List MemPlace)
    (hval : ∀ (j : Nat) t v, Tryd.f4.params[j]? = some t → args[j]? = some v → Value.okWide Tryd.prog W .any base t v)
    (hW : DataW.Whole enc Tryd.prog Tryd.f4.params.toList Rows.checkRenamesSpec.vars false W args.toList ds gs before) (hL : laidMetH Tryd.prog Rows.checkRenamesRow.laid W) :
    Calls Tryd.prog 4 args W fun e W' => ∃ v, e = .returned v ∧ Rows.checkRenamesSpec.post enc Tryd.prog Tryd.f4 false true false false W args v W' := by
  have hrun := law_run H enc W base args ds gs before hval hW hL
  refine hrun.mono fun e W' he => ?_
  obtain ⟨rfl, hb⟩ := he
  exact ⟨_, rfl, Am.law_post (tb := 4) (gs := gs) (before := before) (by kernel_rfl) params_ok (by kernel_rfl) Tryd.underlying4 rfl (spec_shape hW) hW hb⟩

set_option maxRecDepth 100000 in
theorem laid_met (os : Os) (args : Array Value) : laidMet Tryd.prog Rows.checkRenamesRow.laid ((World.laidAll Tryd.prog os Rows.checkRenamesRow.laid).forCall (fun _ _ => 0) ⟨#[], args, []⟩).memory :=
  laidMet_laidAll _ (by kernel_rfl) (by kernel_rfl)
theorem reads (os : Os) {H : Type} (enc : TypeId × Value → H) : ∃ places, DataW.whole enc Tryd.prog ((World.laidAll Tryd.prog os Rows.checkRenamesRow.laid).forCall (fun _ _ => 0) ⟨#[], #[.agg #[.int .i64 0, .string ⟨#[]⟩, .string ⟨#[]⟩, .int .i64 0, .int .i64 0, .int .i64 0, .slice none 0 0], .string ⟨#[]⟩, .string ⟨#[]⟩], []⟩).memory Tryd.f4.params.toList Rows.checkRenamesSpec.vars false #[.agg #[.int .i64 0, .string ⟨#[]⟩, .string ⟨#[]⟩, .int .i64 0, .int .i64 0, .int .i64 0, .slice none 0 0], .string ⟨#[]⟩, .string ⟨#[]⟩].toList 8 = some ([.agg [.lit (.int .i64 0), .lit (.string []), .lit (.string []), .lit (.int .i64 0), .lit (.int .i64 0), .lit (.int .i64 0), .nil], .lit (.string []), .lit (.string [])], [], places) :=
  ⟨[], by kernel_rfl⟩

set_option maxRecDepth 100000 in
theorem lifted (os : Os) (started : os.Started) (H : Type) (enc : TypeId × Value → H) (F : Stop.Interp) :
    ReturnsInHanded {} Tryd.checked os 4 .any ((OpenSpec.ofChange Rows.checkRenamesSpec).preRow enc Tryd.prog Tryd.f4 Rows.checkRenamesRow.domain false Rows.checkRenamesRow.laid) (((OpenSpec.ofChange Rows.checkRenamesSpec).at F).post enc Tryd.prog Tryd.f4 false true false false) := by
  obtain ⟨places, hx⟩ := reads os enc
  refine returnsInHanded_of_row (C := Tryd.checked) (s := OpenSpec.ofChange Rows.checkRenamesSpec) own started (by kernel_rfl) Tryd.func4
    (witness_row_at (enc := enc) (C := Tryd.checked) false (World.laidAll Tryd.prog os Rows.checkRenamesRow.laid) #[.agg #[.int .i64 0, .string ⟨#[]⟩, .string ⟨#[]⟩, .int .i64 0, .int .i64 0, .int .i64 0, .slice none 0 0], .string ⟨#[]⟩, .string ⟨#[]⟩] (World.laidAll_os _ _ _) (by kernel_rfl) (by kernel_rfl) (by kernel_rfl)
      (OpenSpec.preRow_of_cond 8 hx (by kernel_rfl) (fun k hk => by cases hk) (by kernel_rfl) (laid_met os _))) ?_
  intro W base args ds gs before hval hW _ _ _ hL _ _
  exact contract H enc W base args ds gs before hval hW hL

theorem said : Rows.CheckRenamesSaid :=
  OpenClaim.holds_of_cond 4 Tryd.f4 rfl rfl rfl rfl rfl rfl rfl ⟨rfl, rfl, rfl, rfl, rfl⟩ rfl rfl rfl rfl rfl (by kernel_rfl) Tryd.func4 (by kernel_rfl)
    (of_decide_eq_true (by kernel_rfl)) (by unfold Func.isWrapper; first | (rw [if_pos (by decide +kernel)]; kernel_rfl) | (rw [if_neg (by decide +kernel)]; exact ⟨rfl, rfl⟩))
    (fun os started H enc _ F => by rw [OpenClaim.pre_eq_preRow]; exact lifted os started H enc F)

theorem plain (f : FuncId) (fn : Func) (hf : Tryd.pinned.checked.prog.funcNamed Rows.checkRenamesRow.func = some f) (hfn : Tryd.pinned.checked.prog.funcs[f]? = some fn) :
    false = Tryd.pinned.checked.prog.looks [] ∧ ∀ (j : Nat) t, fn.params[j]? = some t → Tryd.pinned.checked.prog.wantsStandIn t = false := by
  obtain rfl : f = 4 := Option.some.inj ((show Tryd.prog.funcNamed Rows.checkRenamesRow.func = some 4 by kernel_rfl).symm.trans hf) |>.symm
  obtain rfl : fn = Tryd.f4 := (Option.some.inj (Tryd.func4.symm.trans hfn)).symm
  refine ⟨by kernel_rfl, fun j t ht => ?_⟩
  have hall : (Tryd.f4.params.toList.all fun t => !Tryd.prog.wantsStandIn t) = true := by kernel_rfl
  have := List.all_eq_true.1 hall t (by
    rw [← Array.getElem?_toList] at ht
    exact List.mem_of_getElem? ht)
  show Tryd.prog.wantsStandIn t = false
  simpa using this

/-- THE CARD. -/
theorem card : Rows.CheckRenamesCardSaid :=
  Claim7.holds_tied_plain_at .later [] _ _ _ _ said (fun _ h => by cases h) (by kernel_rfl) (fun _ h => by cases h) checkRenames_row_tie rfl ⟨rfl, rfl⟩ (by kernel_rfl) rfl plain (by kernel_rfl)
end Go.Proofs.YtjjgpjlfnendaaaDoor.fnCheckRenames
namespace Go.Proofs.YtjjgpjlfnendaaaDoor
theorem checkRenames_card : Rows.CheckRenamesCardSaid := fnCheckRenames.card
end Go.Proofs.YtjjgpjlfnendaaaDoor
