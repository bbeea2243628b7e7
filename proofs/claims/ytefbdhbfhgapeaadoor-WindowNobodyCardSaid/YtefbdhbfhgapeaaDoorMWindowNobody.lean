/- For every image and any two numbers, the law spinnakerlaw19.WindowNobody returns true and leaves its arguments as they were; the listed table holds what the program's text lays (the card ties that). -/
import Derived.Test.YtefbdhbfhgapeaaDoorCards
import Derived.Test.YtefbdhbfhgapeaaDoorTie
import Derived.Test.YtefbdhbfhgapeaaDoorAmNob2
import Derived.Test.YtefbdhbfhgapeaaDoorTNob
import Derived.WalkKit
import Derived.ProofKit
import Derived.OpenShut
import Derived.Deep.DeepHandedRow
import Derived.Lib.LaidTab
import Derived.MakeChecks
import Derived.Lay
import Derived.Test.YtefbdhbfhgapeaaDoorAmRow4
set_option linter.unusedSimpArgs false
namespace Go.Proofs.YtefbdhbfhgapeaaDoor.fnWindowNobody
open Go.ChangeShapes Go.WideShapes Go.ChangeAt Go.RowKit

theorem own : ownKnob Tryd.prog.godebug = none := by kernel_rfl
theorem gn_0 : Tryd.prog.globalNamed "spinnaker/isa.names" = some 0 := by kernel_rfl
theorem globs {W : World} (hL : laidMetH Tryd.prog Rows.windowNobodyRow.laid W) : Am.GlobOk (Am.start W) Am.glT := by
  rw [MakeChecks.laidMetH_plain _ _ _ (by kernel_rfl)] at hL
  intro g cs h
  unfold Am.glT at h
  by_cases e : g = 0
  · rw [if_pos e] at h; injection h with h; subst e; subst h
    exact Am.glob_tab (d := Rows.laid_spinnaker_isa_names) hL (by simp [Rows.windowNobodyRow]) gn_0 (t := 94) (by kernel_rfl) Tryd.underlying94 (by kernel_rfl) (by kernel_rfl) (by kernel_rfl)
  rw [if_neg e] at h; clear e
  simp at h

theorem params_ok : ∀ t ∈ Tryd.f3.params.toList, Tryd.prog.readableRec t = true ∧ t < Tryd.prog.types.size := by
  have h : (Tryd.f3.params.toList.all fun t => Tryd.prog.readableRec t && decide (t < Tryd.prog.types.size)) = true := by kernel_rfl
  intro t ht
  have := List.all_eq_true.1 h t ht
  simpa using this

section
variable {H : Type} {enc : TypeId × Value → H} {W : World} {base : Nat} {spare : Nat → Bool} {held : Bool}
/-- A slice of numbers, as it is read. -/
theorem nums_read {fuel : Nat} {t e : TypeId} {k : IntKind} {cs : List Value} {x : DataW H × List MemPlace} (ht : Tryd.prog.underlying t = some (.slice e)) (he : Tryd.prog.underlying e = some (.int k)) (hc : Tryd.prog.cellsOf e = 1)
    (h : DataW.trod enc Tryd.prog W base spare held fuel t cs = some x) : ∃ rows : List (List Am.V), Am.RepL (Am.start W) [.slc .any 1 rows] cs := by
  obtain ⟨rows, hr, _, _⟩ := Am.trod_slc (Good := fun _ => True) ht (by rw [hc]; exact Nat.one_pos) (fun n cs y h2 hcl => by
    obtain ⟨m, _, _, hm⟩ := Am.trod_intV he h2
    exact ⟨[.sc (.int k m)], hc.symm, rfl, trivial, hm⟩) h
  rw [hc] at hr
  exact ⟨rows, hr⟩

set_option maxRecDepth 100000 in
/-- An image, as it is read. -/
theorem image_read {fuel : Nat} {cs : List Value} {x : DataW H × List MemPlace} (h : DataW.trod enc Tryd.prog W base spare held fuel 25 cs = some x) :
    ∃ ra rb rc : List (List Am.V), Am.RepL (Am.start W) (Am.imC ra rb rc) cs := by
  obtain ⟨xs, n, rfl, rfl, hl, hn, hf⟩ := DataW.trod_struct Tryd.underlying25 h
  have c25 : Tryd.prog.cellsOf 25 = 3 := by kernel_rfl
  have c22 : Tryd.prog.cellsOf 22 = 1 := by kernel_rfl
  have c23 : Tryd.prog.cellsOf 23 = 1 := by kernel_rfl
  rw [c25] at hl
  obtain ⟨a, b, c, rfl⟩ : ∃ a b c, cs = [a, b, c] := by
    match cs, hl with
    | [a, b, c], _ => exact ⟨a, b, c, rfl⟩
  have hn3 : xs.length = 3 := hn
  have f0 : DataW.trod enc Tryd.prog W base spare held n 22 [a] = xs[0]? := by
    have q : DataW.trod enc Tryd.prog W base spare held n 22 ((([a, b, c] : List Value).drop 0).take (Tryd.prog.cellsOf 22)) = xs[0]? := hf 0 _ rfl
    rw [c22] at q
    exact q
  have f1 : DataW.trod enc Tryd.prog W base spare held n 23 [b] = xs[1]? := by
    have q : DataW.trod enc Tryd.prog W base spare held n 23 ((([a, b, c] : List Value).drop 1).take (Tryd.prog.cellsOf 23)) = xs[1]? := hf 1 _ rfl
    rw [c23] at q
    exact q
  have f2 : DataW.trod enc Tryd.prog W base spare held n 23 [c] = xs[2]? := by
    have q : DataW.trod enc Tryd.prog W base spare held n 23 ((([a, b, c] : List Value).drop 2).take (Tryd.prog.cellsOf 23)) = xs[2]? := hf 2 _ rfl
    rw [c23] at q
    exact q
  rw [List.getElem?_eq_getElem (by omega)] at f0 f1 f2
  obtain ⟨ra, r0⟩ := nums_read (k := .u32) Tryd.underlying22 Tryd.underlying48 (by kernel_rfl) f0
  obtain ⟨rb, r1⟩ := nums_read (k := .i64) Tryd.underlying23 Tryd.underlying3 (by kernel_rfl) f1
  obtain ⟨rc, r2⟩ := nums_read (k := .i64) Tryd.underlying23 Tryd.underlying3 (by kernel_rfl) f2
  exact ⟨ra, rb, rc, (r0.append r1).append r2⟩
end

set_option maxRecDepth 100000 in
theorem law_run (H : Type) (enc : TypeId × Value → H) (W : World) (base : Nat) (args : Array Value) (ds gs : List (DataW H)) (before : List MemPlace)
    (hval : ∀ (j : Nat) t v, Tryd.f3.params[j]? = some t → args[j]? = some v → Value.okWide Tryd.prog W .any base t v)
    (hW : DataW.Whole enc Tryd.prog Tryd.f3.params.toList Rows.windowNobodySpec.vars false W args.toList ds gs before) (hL : laidMetH Tryd.prog Rows.windowNobodyRow.laid W) :
    Calls Tryd.prog 3 args W fun e W' => e = .returned (.bool true) ∧ Below W.heap.size W W' := by
  obtain ⟨p, q, hA0, hV, rfl, _, _⟩ := hW
  have hA : DataW.TrodAll enc Tryd.prog W 0 (fun _ => true) true Tryd.f3.params.toList args.toList ds p := hA0
  rw [Tryd.params3] at hA hval
  obtain ⟨v0, vs0, d0, ds0, p0, q0, hargs, rfl, rfl, h0, r0⟩ := trodAll_cons hA
  obtain ⟨v1, vs1, d1, ds1, p1, q1, rfl, rfl, rfl, h1, r1⟩ := trodAll_cons r0
  obtain ⟨v2, vs2, d2, ds2, p2, q2, rfl, rfl, rfl, h2, r2⟩ := trodAll_cons r1
  obtain ⟨rfl, rfl, rfl⟩ := trodAll_nil r2
  obtain rfl : args = #[v0, v1, v2] := by cases args; simp_all
  obtain ⟨_, h0⟩ := h0
  obtain ⟨_, h1⟩ := h1
  obtain ⟨_, h2⟩ := h2
  have k0 := hval 0 25 v0 rfl rfl
  unfold Value.okWide at k0
  rw [Tryd.underlying25] at k0
  obtain ⟨cs, rfl, _, _⟩ := k0
  obtain ⟨ra, rb, rc, rr⟩ := image_read h0
  obtain ⟨i, _, _, ri⟩ := Am.trod_intV (k := .i64) Tryd.underlying3 h1
  obtain ⟨r, _, _, rj⟩ := Am.trod_intV (k := .i64) Tryd.underlying3 h2
  refine Am.law_calls (fn := Tryd.f3) (vs := [Am.imV ra rb rc, .sc (.int .i64 i), .sc (.int .i64 r)]) Am.call_all (globs hL) ?_ Tryd.func3 (by kernel_rfl) (by kernel_rfl) (Am.windowNobody_law ra rb rc i r)
  rw [Am.cells_int Tryd.underlying3 (hval 1 3 v1 rfl rfl)] at ri
  rw [Am.cells_int Tryd.underlying3 (hval 2 3 v2 rfl rfl)] at rj
  have rim : Am.RepL (Am.start W) [Am.imV ra rb rc] [Value.agg cs] := by
    simp only [Am.RepL, Am.RepV]
    exact ⟨_, _, rfl, ⟨cs, rfl, rr⟩, rfl⟩
  have := (rim.append ri).append rj
  simpa using this

theorem spec_shape {H : Type} {enc : TypeId × Value → H} {W : World} {args : Array Value} {ds gs : List (DataW H)} {before : List MemPlace}
    (hW : DataW.Whole enc Tryd.prog Tryd.f3.params.toList Rows.windowNobodySpec.vars false W args.toList ds gs before) :
    (Rows.windowNobodySpec.fn H (ds ++ gs)).results = [.lit (.bool true)] ∧ (Rows.windowNobodySpec.fn H (ds ++ gs)).args = ds ∧ (Rows.windowNobodySpec.fn H (ds ++ gs)).vars = [] := by
  obtain ⟨p, q, hA0, hV, rfl, _, _⟩ := hW
  have hA : DataW.TrodAll enc Tryd.prog W 0 (fun _ => true) true Tryd.f3.params.toList args.toList ds p := hA0
  rw [Tryd.params3] at hA
  obtain ⟨rfl, rfl⟩ := trodVars_none hV
  obtain ⟨v0, vs0, d0, ds0, p0, q0, hargs, rfl, rfl, h0, r0⟩ := trodAll_cons hA
  obtain ⟨v1, vs1, d1, ds1, p1, q1, rfl, rfl, rfl, h1, r1⟩ := trodAll_cons r0
  obtain ⟨v2, vs2, d2, ds2, p2, q2, rfl, rfl, rfl, h2, r2⟩ := trodAll_cons r1
  obtain ⟨rfl, rfl, rfl⟩ := trodAll_nil r2
  exact ⟨rfl, rfl, rfl⟩

set_option maxRecDepth 100000 in
/-- WHAT THE WALK GIVES, FOR EVERY ARGUMENT AND EVERY WORLD THAT HOLDS THE TABLES. -/
theorem contract (H : Type) (enc : TypeId × Value → H) (W : World) (base : Nat) (args : Array Value) (ds gs : List (DataW H)) (before : List MemPlace)
    (hval : ∀ (j : Nat) t v, Tryd.f3.params[j]? = some t → args[j]? = some v → Value.okWide Tryd.prog W .any base t v)
    (hW : DataW.Whole enc Tryd.prog Tryd.f3.params.toList Rows.windowNobodySpec.vars false W args.toList ds gs before) (hL : laidMetH Tryd.prog Rows.windowNobodyRow.laid W) :
    Calls Tryd.prog 3 args W fun e W' => ∃ v, e = .returned v ∧ Rows.windowNobodySpec.post enc Tryd.prog Tryd.f3 false true false false W args v W' := by
  have hrun := law_run H enc W base args ds gs before hval hW hL
  refine hrun.mono fun e W' he => ?_
  obtain ⟨rfl, hb⟩ := he
  exact ⟨_, rfl, Am.law_post (tb := 4) (gs := gs) (before := before) (by kernel_rfl) params_ok (by kernel_rfl) Tryd.underlying4 rfl (spec_shape hW) hW hb⟩

set_option maxRecDepth 100000 in
theorem laid_met (os : Os) (args : Array Value) : laidMet Tryd.prog Rows.windowNobodyRow.laid ((World.laidAll Tryd.prog os Rows.windowNobodyRow.laid).forCall (fun _ _ => 0) ⟨#[], args, []⟩).memory :=
  laidMet_laidAll _ (by kernel_rfl) (by kernel_rfl)
theorem reads (os : Os) {H : Type} (enc : TypeId × Value → H) : ∃ places, DataW.whole enc Tryd.prog ((World.laidAll Tryd.prog os Rows.windowNobodyRow.laid).forCall (fun _ _ => 0) ⟨#[], #[.agg #[.slice none 0 0, .slice none 0 0, .slice none 0 0], .int .i64 0, .int .i64 0], []⟩).memory Tryd.f3.params.toList Rows.windowNobodySpec.vars false #[.agg #[.slice none 0 0, .slice none 0 0, .slice none 0 0], .int .i64 0, .int .i64 0].toList 8 = some ([.agg [.nil, .nil, .nil], .lit (.int .i64 0), .lit (.int .i64 0)], [], places) :=
  ⟨[], by kernel_rfl⟩

set_option maxRecDepth 100000 in
theorem lifted (os : Os) (started : os.Started) (H : Type) (enc : TypeId × Value → H) (F : Stop.Interp) :
    ReturnsInHanded {} Tryd.checked os 3 .any ((OpenSpec.ofChange Rows.windowNobodySpec).preRow enc Tryd.prog Tryd.f3 Rows.windowNobodyRow.domain false Rows.windowNobodyRow.laid) (((OpenSpec.ofChange Rows.windowNobodySpec).at F).post enc Tryd.prog Tryd.f3 false true false false) := by
  obtain ⟨places, hx⟩ := reads os enc
  refine returnsInHanded_of_row (C := Tryd.checked) (s := OpenSpec.ofChange Rows.windowNobodySpec) own started (by kernel_rfl) Tryd.func3
    (witness_row_at (enc := enc) (C := Tryd.checked) false (World.laidAll Tryd.prog os Rows.windowNobodyRow.laid) #[.agg #[.slice none 0 0, .slice none 0 0, .slice none 0 0], .int .i64 0, .int .i64 0] (World.laidAll_os _ _ _) (by kernel_rfl) (by kernel_rfl) (by kernel_rfl)
      (OpenSpec.preRow_of_cond 8 hx (by kernel_rfl) (fun k hk => by cases hk) (by kernel_rfl) (laid_met os _))) ?_
  intro W base args ds gs before hval hW _ _ _ hL _ _
  exact contract H enc W base args ds gs before hval hW hL

theorem said : Rows.WindowNobodySaid :=
  OpenClaim.holds_of_cond 3 Tryd.f3 rfl rfl rfl rfl rfl rfl rfl ⟨rfl, rfl, rfl, rfl, rfl⟩ rfl rfl rfl rfl rfl (by kernel_rfl) Tryd.func3 (by kernel_rfl)
    (of_decide_eq_true (by kernel_rfl)) (by unfold Func.isWrapper; first | (rw [if_pos (by decide +kernel)]; kernel_rfl) | (rw [if_neg (by decide +kernel)]; exact ⟨rfl, rfl⟩))
    (fun os started H enc _ F => by rw [OpenClaim.pre_eq_preRow]; exact lifted os started H enc F)

theorem plain (f : FuncId) (fn : Func) (hf : Tryd.pinned.checked.prog.funcNamed Rows.windowNobodyRow.func = some f) (hfn : Tryd.pinned.checked.prog.funcs[f]? = some fn) :
    false = Tryd.pinned.checked.prog.looks [] ∧ ∀ (j : Nat) t, fn.params[j]? = some t → Tryd.pinned.checked.prog.wantsStandIn t = false := by
  obtain rfl : f = 3 := Option.some.inj ((show Tryd.prog.funcNamed Rows.windowNobodyRow.func = some 3 by kernel_rfl).symm.trans hf) |>.symm
  obtain rfl : fn = Tryd.f3 := (Option.some.inj (Tryd.func3.symm.trans hfn)).symm
  refine ⟨by kernel_rfl, fun j t ht => ?_⟩
  have hall : (Tryd.f3.params.toList.all fun t => !Tryd.prog.wantsStandIn t) = true := by kernel_rfl
  have := List.all_eq_true.1 hall t (by
    rw [← Array.getElem?_toList] at ht
    exact List.mem_of_getElem? ht)
  show Tryd.prog.wantsStandIn t = false
  simpa using this

/-- THE CARD. -/
theorem card : Rows.WindowNobodyCardSaid :=
  Claim7.holds_tied_plain_at .later [] _ _ _ _ said (fun _ h => by cases h) (by kernel_rfl) (fun _ h => by cases h) windowNobody_row_tie rfl ⟨rfl, rfl⟩ (by kernel_rfl) rfl plain (by kernel_rfl)
end Go.Proofs.YtefbdhbfhgapeaaDoor.fnWindowNobody
namespace Go.Proofs.YtefbdhbfhgapeaaDoor
theorem windowNobody_card : Rows.WindowNobodyCardSaid := fnWindowNobody.card
end Go.Proofs.YtefbdhbfhgapeaaDoor
