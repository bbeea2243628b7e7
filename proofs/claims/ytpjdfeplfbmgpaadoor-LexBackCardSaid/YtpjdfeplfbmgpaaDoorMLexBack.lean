/- For every list of tokens, the law spinnakerlaw22.LexBack returns true and leaves its argument as it was; the listed tables hold what the program's text lays (the card ties that). -/
import Derived.Test.YtpjdfeplfbmgpaaDoorAm6
import Derived.Test.YtpjdfeplfbmgpaaDoorCards
import Derived.Test.YtpjdfeplfbmgpaaDoorTie
import Derived.Test.YtpjdfeplfbmgpaaDoorTLex
import Derived.WalkKit
import Derived.ProofKit
import Derived.OpenShut
import Derived.Deep.DeepHandedRow
import Derived.Lib.LaidTab
import Derived.MakeChecks
import Derived.Lay
set_option linter.unusedSimpArgs false
namespace Go.Proofs.YtpjdfeplfbmgpaaDoor.fnLexBack
open Go.ChangeShapes Go.WideShapes Go.ChangeAt Go.RowKit

theorem own : ownKnob Tryd.prog.godebug = none := by kernel_rfl
theorem gn_2 : Tryd.prog.globalNamed "spinnaker/lex.signs" = some 2 := by kernel_rfl
theorem gn_4 : Tryd.prog.globalNamed "strconv.ErrSyntax" = some 4 := by kernel_rfl
theorem gn_5 : Tryd.prog.globalNamed "strconv.ErrRange" = some 5 := by kernel_rfl
theorem gn_6 : Tryd.prog.globalNamed "internal/strconv.uint64pow10" = some 6 := by kernel_rfl
theorem gn_9 : Tryd.prog.globalNamed "math/bits.deBruijn32tab" = some 9 := by kernel_rfl
theorem gn_10 : Tryd.prog.globalNamed "math/bits.deBruijn64tab" = some 10 := by kernel_rfl
theorem globs {W : World} (hL : laidMetH Tryd.prog Rows.lexBackRow.laid W) : Am.GlobOk (Am.start W) Am.glT := by
  rw [MakeChecks.laidMetH_plain _ _ _ (by kernel_rfl)] at hL
  intro g cs h
  unfold Am.glT at h
  by_cases e : g = 2
  · rw [if_pos e] at h; injection h with h; subst e; subst h
    exact Am.glob_tab (d := Rows.laid_spinnaker_lex_signs) hL (by simp [Rows.lexBackRow]) gn_2 (t := 93) (by kernel_rfl) Tryd.underlying93 (by kernel_rfl) (by kernel_rfl) (by kernel_rfl)
  rw [if_neg e] at h; clear e
  by_cases e : g = 4
  · rw [if_pos e] at h; injection h with h; subst e; subst h
    exact Am.glob_opq (d := Rows.laid_strconv_ErrSyntax) hL (by simp [Rows.lexBackRow]) gn_4 (t := 67) (by kernel_rfl) Tryd.underlying67
  rw [if_neg e] at h; clear e
  by_cases e : g = 5
  · rw [if_pos e] at h; injection h with h; subst e; subst h
    exact Am.glob_opq (d := Rows.laid_strconv_ErrRange) hL (by simp [Rows.lexBackRow]) gn_5 (t := 67) (by kernel_rfl) Tryd.underlying67
  rw [if_neg e] at h; clear e
  by_cases e : g = 6
  · rw [if_pos e] at h; injection h with h; subst e; subst h
    exact Am.glob_tab (d := Rows.laid_internal_strconv_uint64pow10) hL (by simp [Rows.lexBackRow]) gn_6 (t := 130) (by kernel_rfl) Tryd.underlying130 (by kernel_rfl) (by kernel_rfl) (by kernel_rfl)
  rw [if_neg e] at h; clear e
  by_cases e : g = 9
  · rw [if_pos e] at h; injection h with h; subst e; subst h
    exact Am.glob_tab (d := Rows.laid_math_bits_deBruijn32tab) hL (by simp [Rows.lexBackRow]) gn_9 (t := 141) (by kernel_rfl) Tryd.underlying141 (by kernel_rfl) (by kernel_rfl) (by kernel_rfl)
  rw [if_neg e] at h; clear e
  by_cases e : g = 10
  · rw [if_pos e] at h; injection h with h; subst e; subst h
    exact Am.glob_tab (d := Rows.laid_math_bits_deBruijn64tab) hL (by simp [Rows.lexBackRow]) gn_10 (t := 142) (by kernel_rfl) Tryd.underlying142 (by kernel_rfl) (by kernel_rfl) (by kernel_rfl)
  rw [if_neg e] at h; clear e
  simp at h

set_option maxRecDepth 100000 in
theorem tok_inv {n : Nat} {vs : List Am.V} (h : Am.Shp Tryd.prog n 36 vs) : ∃ t : Am.ArgT, t.2.2.1 < 9223372036854775808 ∧ vs = Am.argRow t := by
  obtain ⟨k, rfl, h⟩ := h.struct Tryd.underlying36
  obtain ⟨a, r, rfl, _, h0, b, r, rfl, _, h1, c, r, rfl, _, h2, d, r, rfl, _, h3, rfl⟩ := h
  obtain ⟨x0, _, _, rfl⟩ := h0.int Tryd.underlying3
  obtain ⟨x1, _, rfl⟩ := h1.str Tryd.underlying9
  obtain ⟨x2, _, u, rfl⟩ := h2.int Tryd.underlying3
  obtain ⟨x3, _, _, rfl⟩ := h3.int Tryd.underlying3
  refine ⟨(x0, x1.data.toList, x2, x3), ?_, ?_⟩
  · have u' : x2 ≤ (9223372036854775807 : Int) := u
    show x2 < 9223372036854775808
    omega
  · simp only [Am.argRow, Am.bs_of, List.cons_append, List.nil_append, List.append_nil]
set_option maxRecDepth 100000 in
theorem law_of : ∀ avs, Am.Each (Am.ArgShp Tryd.prog) [29] avs → Am.WpF Am.S0 0 5 avs [] fun v _ => v = .bool true := by
  intro avs h
  match avs, h with
  | [a], ⟨⟨n, vs, h, e⟩, _⟩ =>
    rw [Tryd.underlying29] at e
    simp only at e
    subst e
    obtain ⟨rows, k, rfl, e, hlen, hr⟩ := h.slc Tryd.underlying29
    obtain ⟨l, rfl, hl⟩ : ∃ l : List Am.ArgT, rows = l.map Am.argRow ∧ ∀ t ∈ l, t.2.2.1 < 9223372036854775808 := by
      clear e h hlen
      induction rows with
      | nil => exact ⟨[], rfl, by simp⟩
      | cons r rows ih =>
        obtain ⟨ys, rfl, hy⟩ := ih fun r hr' => hr r (by simp [hr'])
        obtain ⟨t, h1, rfl⟩ := tok_inv (hr r (by simp))
        refine ⟨t :: ys, rfl, fun y hm => ?_⟩
        rcases List.mem_cons.1 hm with rfl | hm
        · exact h1
        · exact hy y hm
    have c1 : Tryd.prog.cellsOf 36 = 4 := by kernel_rfl
    rw [c1] at e
    injection e with e _
    subst e
    exact Am.lexBack_law .any l hl
theorem params_ok : ∀ t ∈ Tryd.f5.params.toList, Tryd.prog.readableRec t = true ∧ t < Tryd.prog.types.size := by
  have h : (Tryd.f5.params.toList.all fun t => Tryd.prog.readableRec t && decide (t < Tryd.prog.types.size)) = true := by kernel_rfl
  intro t ht
  have := List.all_eq_true.1 h t ht
  simpa using this
theorem tys_ok : Am.chkTy Tryd.prog [3, 9, 29, 36] = true := by kernel_rfl
theorem params_in : ∀ t ∈ Tryd.f5.params.toList, t ∈ [3, 9, 29, 36] := by
  rw [Tryd.params5]
  decide
set_option maxRecDepth 100000 in
theorem law_run (H : Type) (enc : TypeId × Value → H) (W : World) (base : Nat) (args : Array Value) (ds gs : List (DataW H)) (before : List MemPlace)
    (hval : ∀ (j : Nat) t v, Tryd.f5.params[j]? = some t → args[j]? = some v → Value.okWide Tryd.prog W .any base t v)
    (hW : DataW.Whole enc Tryd.prog Tryd.f5.params.toList Rows.lexBackSpec.vars false W args.toList ds gs before) (hL : laidMetH Tryd.prog Rows.lexBackRow.laid W) :
    Calls Tryd.prog 5 args W fun e W' => e = .returned (.bool true) ∧ Below W.heap.size W W' := by
  obtain ⟨p, q, hA0, hV, rfl, _, _⟩ := hW
  have hA : DataW.TrodAll enc Tryd.prog W 0 (fun _ => true) true Tryd.f5.params.toList args.toList ds p := hA0
  obtain ⟨avs, h1, h2, _⟩ := Am.args_shp tys_ok params_in hA (fun j t v a b => hval j t v (by simpa using a) (by simpa using b))
  rw [Tryd.params5] at h2
  exact Am.law_calls (fn := Tryd.f5) (vs := avs) Am.call_all (globs hL) h1 Tryd.func5 (by kernel_rfl) (by kernel_rfl) (law_of avs h2)
theorem spec_shape {H : Type} {enc : TypeId × Value → H} {W : World} {args : Array Value} {ds gs : List (DataW H)} {before : List MemPlace}
    (hW : DataW.Whole enc Tryd.prog Tryd.f5.params.toList Rows.lexBackSpec.vars false W args.toList ds gs before) :
    (Rows.lexBackSpec.fn H (ds ++ gs)).results = [.lit (.bool true)] ∧ (Rows.lexBackSpec.fn H (ds ++ gs)).args = ds ∧ (Rows.lexBackSpec.fn H (ds ++ gs)).vars = [] := by
  obtain ⟨p, q, hA0, hV, rfl, _, _⟩ := hW
  have hA : DataW.TrodAll enc Tryd.prog W 0 (fun _ => true) true Tryd.f5.params.toList args.toList ds p := hA0
  rw [Tryd.params5] at hA
  obtain ⟨rfl, rfl⟩ := trodVars_none hV
  obtain ⟨v0, vs0, d0, ds0, p0, q0, hargs, rfl, rfl, h0, r0⟩ := trodAll_cons hA
  obtain ⟨rfl, rfl, rfl⟩ := trodAll_nil r0
  exact ⟨rfl, rfl, rfl⟩


set_option maxRecDepth 100000 in
/-- WHAT THE WALK GIVES, FOR EVERY ARGUMENT AND EVERY WORLD THAT HOLDS THE TABLES. -/
theorem contract (H : Type) (enc : TypeId × Value → H) (W : World) (base : Nat) (args : Array Value) (ds gs : List (DataW H)) (before : List MemPlace)
    (hval : ∀ (j : Nat) t v, Tryd.f5.params[j]? = some t → args[j]? = some v → Value.okWide Tryd.prog W .any base t v)
    (hW : DataW.Whole enc Tryd.prog Tryd.f5.params.toList Rows.lexBackSpec.vars false W args.toList ds gs before) (hL : laidMetH Tryd.prog Rows.lexBackRow.laid W) :
    Calls Tryd.prog 5 args W fun e W' => ∃ v, e = .returned v ∧ Rows.lexBackSpec.post enc Tryd.prog Tryd.f5 false true false false W args v W' := by
  have hrun := law_run H enc W base args ds gs before hval hW hL
  refine hrun.mono fun e W' he => ?_
  obtain ⟨rfl, hb⟩ := he
  exact ⟨_, rfl, Am.law_post (tb := 4) (gs := gs) (before := before) (by kernel_rfl) params_ok (by kernel_rfl) Tryd.underlying4 rfl (spec_shape hW) hW hb⟩

set_option maxRecDepth 100000 in
theorem laid_met (os : Os) (args : Array Value) : laidMet Tryd.prog Rows.lexBackRow.laid ((World.laidAll Tryd.prog os Rows.lexBackRow.laid).forCall (fun _ _ => 0) ⟨#[], args, []⟩).memory :=
  laidMet_laidAll _ (by kernel_rfl) (by kernel_rfl)
theorem reads (os : Os) {H : Type} (enc : TypeId × Value → H) : ∃ places, DataW.whole enc Tryd.prog ((World.laidAll Tryd.prog os Rows.lexBackRow.laid).forCall (fun _ _ => 0) ⟨#[], #[.slice none 0 0], []⟩).memory Tryd.f5.params.toList Rows.lexBackSpec.vars false #[.slice none 0 0].toList 8 = some ([.nil], [], places) :=
  ⟨[], by kernel_rfl⟩

set_option maxRecDepth 100000 in
theorem lifted (os : Os) (started : os.Started) (H : Type) (enc : TypeId × Value → H) (F : Stop.Interp) :
    ReturnsInHanded {} Tryd.checked os 5 .any ((OpenSpec.ofChange Rows.lexBackSpec).preRow enc Tryd.prog Tryd.f5 Rows.lexBackRow.domain false Rows.lexBackRow.laid) (((OpenSpec.ofChange Rows.lexBackSpec).at F).post enc Tryd.prog Tryd.f5 false true false false) := by
  obtain ⟨places, hx⟩ := reads os enc
  refine returnsInHanded_of_row (C := Tryd.checked) (s := OpenSpec.ofChange Rows.lexBackSpec) own started (by kernel_rfl) Tryd.func5
    (witness_row_at (enc := enc) (C := Tryd.checked) false (World.laidAll Tryd.prog os Rows.lexBackRow.laid) #[.slice none 0 0] (World.laidAll_os _ _ _) (by kernel_rfl) (by kernel_rfl) (by kernel_rfl)
      (OpenSpec.preRow_of_cond 8 hx (by kernel_rfl) (fun k hk => by cases hk) (by kernel_rfl) (laid_met os _))) ?_
  intro W base args ds gs before hval hW _ _ _ hL _ _
  exact contract H enc W base args ds gs before hval hW hL

theorem said : Rows.LexBackSaid :=
  OpenClaim.holds_of_cond 5 Tryd.f5 rfl rfl rfl rfl rfl rfl rfl ⟨rfl, rfl, rfl, rfl, rfl⟩ rfl rfl rfl rfl rfl (by kernel_rfl) Tryd.func5 (by kernel_rfl)
    (of_decide_eq_true (by kernel_rfl)) (by unfold Func.isWrapper; first | (rw [if_pos (by decide +kernel)]; kernel_rfl) | (rw [if_neg (by decide +kernel)]; exact ⟨rfl, rfl⟩))
    (fun os started H enc _ F => by rw [OpenClaim.pre_eq_preRow]; exact lifted os started H enc F)

theorem plain (f : FuncId) (fn : Func) (hf : Tryd.pinned.checked.prog.funcNamed Rows.lexBackRow.func = some f) (hfn : Tryd.pinned.checked.prog.funcs[f]? = some fn) :
    true = Tryd.pinned.checked.prog.looks [] ∧ ∀ (j : Nat) t, fn.params[j]? = some t → Tryd.pinned.checked.prog.wantsStandIn t = false := by
  obtain rfl : f = 5 := Option.some.inj ((show Tryd.prog.funcNamed Rows.lexBackRow.func = some 5 by kernel_rfl).symm.trans hf) |>.symm
  obtain rfl : fn = Tryd.f5 := (Option.some.inj (Tryd.func5.symm.trans hfn)).symm
  refine ⟨by kernel_rfl, fun j t ht => ?_⟩
  have hall : (Tryd.f5.params.toList.all fun t => !Tryd.prog.wantsStandIn t) = true := by kernel_rfl
  have := List.all_eq_true.1 hall t (by
    rw [← Array.getElem?_toList] at ht
    exact List.mem_of_getElem? ht)
  show Tryd.prog.wantsStandIn t = false
  simpa using this

/-- THE CARD. -/
theorem card : Rows.LexBackCardSaid :=
  Claim7.holds_tied_plain_at .later [] _ _ _ _ said (fun _ h => by cases h) (by kernel_rfl) (fun _ h => by cases h) lexBack_row_tie rfl ⟨rfl, rfl⟩ (by kernel_rfl) rfl plain (by kernel_rfl)
end Go.Proofs.YtpjdfeplfbmgpaaDoor.fnLexBack
namespace Go.Proofs.YtpjdfeplfbmgpaaDoor
theorem lexBack_card : Rows.LexBackCardSaid := fnLexBack.card
end Go.Proofs.YtpjdfeplfbmgpaaDoor
