/- The abstract machine and what is proved in it, part 11. -/
import Derived.Test.YtjjgpjlfnendaaaDoorAm10
set_option linter.unusedVariables false
set_option linter.unusedSimpArgs false
namespace Go.Am
section
theorem split_last {l : List Nd} (h : 0 < l.length) : ∃ ini z, l = ini ++ [z] :=
  ⟨l.dropLast, l.getLast (by intro e; rw [e] at h; simp at h), (List.dropLast_concat_getLast _).symm⟩
set_option maxHeartbeats 2000000 in
theorem item_r (x : Nd) : ItemOk x := by
  intro base cs h hv
  first | refine zu (A := f_spinnakerref23_item) rfl rfl rfl rfl ?_ | refine zB (A := f_spinnakerref23_item) rfl rfl rfl rfl ?_
  obtain ⟨lv, rfl, hl⟩ := hv.open
  have ll := hl.len
  rw [body_item]
  refine zw (fun en' h' => en' 1 = .eptr (ndC x lv) 0 ∧ h' = h) ?_ ?_
  · simp only [f_spinnakerref23_item, oD, cD]
    simp only [SQ, SQB, zm, AOp.opds, step, Opd.get, zk, bin, zc, IntKind.signed, zi, zj, zl, zb, unary, ze, zd, za, zo, zr, zh, zf, zg, zp, Cp.isFull, isNil, zq, simprocAttr, SQX, V.cells, hl.gr]
  rintro en1 h1 ⟨e1, rfl⟩
  have e1' := e1
  simp only [ndC] at e1
  rw [WpC_seqD]
  simp only [f_spinnakerref23_item, oD, cD]
  by_cases hk : x.kind = 2
  · have hb := fun base h => blank_r (base := base) hv ⟨#[83, 78]⟩ true false true false false h (by decide) (by decide) (by decide) (by decide) (by decide) (by decide)
    have he : okK zA 2 4 x = mayN zA x := by simp [okK, hk]
    rw [he, mayN_2 hk]
    rw [hk] at hb e1
    simp only [SQ, SQB, zm, AOp.opds, step, Opd.get, zk, bin, zc, IntKind.signed, zi, zj, zl, zb, unary, ze, zd, za, zo, zr, zh, zf, zg, zp, Cp.isFull, isNil, zq, simprocAttr, SQX, V.cells, e1, hk, zC, zn (hb _ _)]
  by_cases hk3 : x.kind = 3
  · have hb := fun base h => blank_r (base := base) hv ⟨#[83, 78, 76]⟩ true false true false true h (by decide) (by decide) (by decide) (by decide) (by decide) (by decide)
    have he : okK zA 2 4 x = mayN zA x := by simp [okK, hk3]
    rw [he, mayN_3 hk3]
    rw [hk3] at hb e1
    generalize blankB zA true false true false true x = A at hb
    cases A
    · simp only [SQ, SQB, zm, AOp.opds, step, Opd.get, bin, zc, IntKind.signed, zi, zj, zl, zb, unary, ze, zd, za, zo, zr, zh, zf, zg, zp, Cp.isFull, isNil, zq, simprocAttr, SQX, V.cells, e1, hk3, zC, zn (hb _ _), Bool.false_and]
    · by_cases h0 : 0 ≤ x.n
      · have h0' : ¬ x.n < 0 := by omega
        by_cases hn : x.n < x.l.length
        · have hn' : ¬ (x.l.length : Int) ≤ x.n := by omega
          simp only [SQ, SQB, zm, AOp.opds, step, Opd.get, bin, zc, IntKind.signed, zi, zj, zl, zb, unary, ze, zd, za, zo, zr, zh, zf, zg, zp, Cp.isFull, isNil, zq, simprocAttr, SQX, V.cells, e1, hk3, zC, zn (hb _ _), h0', hn', ll]
          obtain ⟨ini, z, hx⟩ := split_last (l := x.l) (by omega)
          refine tail_r hl (by simpa [put_app] using e1') ini z hx fun en' e2 => ?_
          simp only [SQ, SQB, zm, AOp.opds, step, Opd.get, zk, bin, zc, IntKind.signed, zi, zj, zl, zb, unary, ze, zd, za, zo, zr, zh, zf, zg, zp, Cp.isFull, isNil, zq, simprocAttr, SQX, V.cells, e2, h0, hn]
          rw [hx, lastN_all, hk3, funext (fun y => decl_3 (y := y))]
        · have hn' : (x.l.length : Int) ≤ x.n := by omega
          simp only [SQ, SQB, zm, AOp.opds, step, Opd.get, bin, zc, IntKind.signed, zi, zj, zl, zb, unary, ze, zd, za, zo, zr, zh, zf, zg, zp, Cp.isFull, isNil, zq, simprocAttr, SQX, V.cells, e1, hk3, zC, zn (hb _ _), h0', hn', ll, hn, Bool.false_and, Bool.and_false]
      · have h0' : x.n < 0 := by omega
        simp only [SQ, SQB, zm, AOp.opds, step, Opd.get, bin, zc, IntKind.signed, zi, zj, zl, zb, unary, ze, zd, za, zo, zr, zh, zf, zg, zp, Cp.isFull, isNil, zq, simprocAttr, SQX, V.cells, e1, hk3, zC, zn (hb _ _), h0', h0, Bool.false_and, Bool.and_false]
  by_cases hk4 : x.kind = 4
  · have hb := fun base h => blank_r (base := base) hv ⟨#[76]⟩ false false false false true h (by decide) (by decide) (by decide) (by decide) (by decide) (by decide)
    have he : okK zA 2 4 x = mayN zA x := by simp [okK, hk4]
    rw [he, mayN_4 hk4]
    rw [hk4] at hb e1
    generalize blankB zA false false false false true x = A at hb
    cases A
    · simp only [SQ, SQB, zm, AOp.opds, step, Opd.get, bin, zc, IntKind.signed, zi, zj, zl, zb, unary, ze, zd, za, zo, zr, zh, zf, zg, zp, Cp.isFull, isNil, zq, simprocAttr, SQX, V.cells, e1, hk4, zC, zn (hb _ _), Bool.false_and]
    · by_cases h0 : x.l.length = 0
      · have h0' : (x.l.length : Int) = 0 := by omega
        have hf : lastN zA 5 6 x.l = false := by rw [List.eq_nil_of_length_eq_zero h0]; rfl
        simp only [SQ, SQB, zm, AOp.opds, step, Opd.get, bin, zc, IntKind.signed, zi, zj, zl, zb, unary, ze, zd, za, zo, zr, zh, zf, zg, zp, Cp.isFull, isNil, zq, simprocAttr, SQX, V.cells, e1, hk4, zC, zn (hb _ _), h0', ll, hf, Bool.and_false]
      · have h0' : ¬ (x.l.length : Int) = 0 := by omega
        simp only [SQ, SQB, zm, AOp.opds, step, Opd.get, bin, zc, IntKind.signed, zi, zj, zl, zb, unary, ze, zd, za, zo, zr, zh, zf, zg, zp, Cp.isFull, isNil, zq, simprocAttr, SQX, V.cells, e1, hk4, zC, zn (hb _ _), h0', ll]
        obtain ⟨ini, z, hx⟩ := split_last (l := x.l) (by omega)
        refine tail_r hl (by simpa [put_app] using e1') ini z hx fun en' e2 => ?_
        simp only [SQ, SQB, zm, AOp.opds, step, Opd.get, zk, bin, zc, IntKind.signed, zi, zj, zl, zb, unary, ze, zd, za, zo, zr, zh, zf, zg, zp, Cp.isFull, isNil, zq, simprocAttr, SQX, V.cells, e2]
        rw [hx, lastN_all, hk4, funext (fun y => decl_4 (y := y))]
  have he : okK zA 2 4 x = false := by
    unfold okK
    rw [decide_eq_false (by omega)]
    rfl
  rw [he]
  simp only [SQ, SQB, zm, AOp.opds, step, Opd.get, zk, bin, zc, IntKind.signed, zi, zj, zl, zb, unary, ze, zd, za, zo, zr, zh, zf, zg, zp, Cp.isFull, isNil, zq, simprocAttr, SQX, V.cells, e1, hk, hk3, hk4]
set_option maxHeartbeats 2000000 in
theorem refMay_r {base : Nat} {x : Nd} {cs : List V} (h : Heap) (hv : NdV x cs) : WpF S0 base k_spinnakerref23_May [.agg cs] h fun v h' => v = .bool (okK zA 1 1 x) ∧ h' = h := by
  first | refine zu (A := f_spinnakerref23_May) rfl rfl rfl rfl ?_ | refine zB (A := f_spinnakerref23_May) rfl rfl rfl rfl ?_
  obtain ⟨lv, rfl, hl⟩ := hv.open
  simp only [f_spinnakerref23_May, oD, cD]
  refine zw (fun en' h' => en' 1 = .eptr (ndC x lv) 0 ∧ h' = h) ?_ ?_
  · simp only [SQ, SQB, zm, AOp.opds, step, Opd.get, zk, bin, zc, IntKind.signed, zi, zj, zl, zb, unary, ze, zd, za, zo, zr, zh, zf, zg, zp, Cp.isFull, isNil, zq, simprocAttr, SQX, V.cells, hl.gr]
  rintro en1 h1 ⟨e1, rfl⟩
  have e1' := e1
  simp only [ndC] at e1
  by_cases hk : x.kind = 1
  · have hb := fun base h => blank_r (base := base) hv ⟨#[76]⟩ false false false false true h (by decide) (by decide) (by decide) (by decide) (by decide) (by decide)
    have he : okK zA 1 1 x = mayN zA x := by simp [okK, hk]
    rw [he, mayN_1 hk, allN_all]
    rw [hk] at hb e1
    have ll := hl.len
    have lt := hl.lt
    generalize hA : blankB zA false false false false true x = A at hb
    cases A
    · simp only [SQ, SQB, zm, AOp.opds, step, Opd.get, bin, zc, IntKind.signed, zi, zj, zl, zb, unary, ze, zd, za, zo, zr, zh, zf, zg, zp, Cp.isFull, isNil, zq, simprocAttr, SQX, V.cells, e1, hk, zC, zn (hb _ _), Bool.false_and]
    · simp only [SQ, SQB, zm, AOp.opds, step, Opd.get, bin, zc, IntKind.signed, zi, zj, zl, zb, unary, ze, zd, za, zo, zr, zh, zf, zg, zp, Cp.isFull, isNil, zq, simprocAttr, SQX, V.cells, e1, hk, zC, zn (hb _ _), Bool.true_and]
      refine WpC_loopI (fun k en h' => ∃ i : Nat, k = x.l.length - i ∧ i ≤ x.l.length ∧ en 3 = V.int i ∧ en 1 = en1 1 ∧ (x.l.take i).all (okK zA 2 4) = true ∧ h' = h1) x.l.length ⟨0, rfl, Nat.zero_le _, rfl, rfl, rfl, rfl⟩ ?_
      rintro k en h' ⟨i, rfl, hi, e3, e0, hall, rfl⟩
      rw [e1] at e0
      by_cases h1 : i < x.l.length
      · obtain ⟨r, hr1, hr2⟩ := hl.get h1
        obtain ⟨lv2, rfl, _⟩ := hr2.open
        have hc := fun base h => item_r x.l[i] base _ h hr2
        cases hk : okK zA 2 4 x.l[i]
        · rw [hk] at hc
          simp only [SQ, SQB, zm, AOp.opds, step, Opd.get, bin, zc, IntKind.signed, zj, zl, zb, unary, ze, zd, za, zo, zr, zh, zf, zg, zp, Cp.isFull, isNil, zq, simprocAttr, SQX, V.cells, e3, e0, ll, h1, hr1, zC, zn (hc _ _), all_not h1 hk]
        · rw [hk] at hc
          simp only [SQ, SQB, zm, AOp.opds, step, Opd.get, bin, zc, IntKind.signed, zj, zl, zb, unary, ze, zd, za, zo, zr, zh, zf, zg, zp, Cp.isFull, isNil, zq, simprocAttr, SQX, V.cells, e3, e0, ll, h1, hr1, zC, zn (hc _ _)]
          exact ⟨x.l.length - (i + 1), by omega, i + 1, rfl, by omega, by rw [wrap_i64 (by omega) (by omega)]; rfl, e1.symm, take_all h1 hall hk⟩
      · have : x.l.take i = x.l := List.take_of_length_le (by omega)
        rw [this] at hall
        simp only [SQ, SQB, zm, AOp.opds, step, Opd.get, bin, zc, IntKind.signed, zj, zl, zb, unary, ze, zd, za, zo, zr, zh, zf, zg, zp, Cp.isFull, isNil, zq, simprocAttr, SQX, V.cells, e3, e0, ll, h1, hall]
  · have he : okK zA 1 1 x = false := by
      unfold okK
      rw [decide_eq_false (by omega)]
      rfl
    rw [he]
    simp only [SQ, SQB, zm, AOp.opds, step, Opd.get, zk, bin, zc, IntKind.signed, zi, zj, zl, zb, unary, ze, zd, za, zo, zr, zh, zf, zg, zp, Cp.isFull, isNil, zq, simprocAttr, SQX, V.cells, e1, hk]
end
section
theorem foldl_take {α β : Type} {f : β → α → β} {b : β} {l : List α} {i : Nat} (hi : i < l.length) : (l.take (i + 1)).foldl f b = f ((l.take i).foldl f b) l[i] := by
  rw [List.take_add_one, List.getElem?_eq_getElem hi, List.foldl_append]; rfl
def gStep (s : ByteArray) (a : Int) (y : Nd) : Int := if (y.s.toList == s.toList) = true then (if y.kind = 2 then 3 else if y.kind = 3 then 4 else a) else a
def globN (s : ByteArray) (l : List Nd) : Int := l.foldl (gStep s) 0
set_option maxHeartbeats 2000000 in
theorem global_r {base : Nat} {x : Nd} {cs : List V} (s : ByteArray) (h : Heap) (hv : NdV x cs) : WpF S0 base k_spinnakerref25_global [.agg cs, .sc (.string s)] h fun v h' => v = .sc (.int .i64 (globN s x.l)) ∧ h' = h := by
  obtain ⟨lv, rfl, hl⟩ := hv.open
  have ll := hl.len
  have lt := hl.lt
  first | refine zu (A := f_spinnakerref25_global) rfl rfl rfl rfl ?_ | refine zB (A := f_spinnakerref25_global) rfl rfl rfl rfl ?_
  simp only [f_spinnakerref25_global, oD, cD]
  refine zw (fun en' h' => en' 2 = .eptr (ndC x lv) 0 ∧ en' 1 = .sc (.string s) ∧ h' = h) ?_ ?_
  · simp only [SQ, SQB, zm, AOp.opds, step, Opd.get, zk, bin, zc, IntKind.signed, zi, zj, zl, zb, unary, ze, zd, za, zo, zr, zh, zf, zg, zp, Cp.isFull, isNil, zq, simprocAttr, SQX, V.cells, hl.gr]
  rintro en1 h1 ⟨e2, e1, rfl⟩
  simp only [SQ, SQB, zm, AOp.opds, step, Opd.get, zk, bin, zc, IntKind.signed, zi, zj, zl, zb, unary, ze, zd, za, zo, zr, zh, zf, zg, zp, Cp.isFull, isNil, zq, simprocAttr, SQX, V.cells, e1, e2]
  refine WpC_loopI (fun k en h' => ∃ i : Nat, k = x.l.length - i ∧ i ≤ x.l.length ∧ en 6 = V.int i ∧ en 2 = .eptr (ndC x lv) 0 ∧ en 1 = .sc (.string s) ∧ en 5 = .sc (.int .i64 ((x.l.take i).foldl (gStep s) 0)) ∧ h' = h1) x.l.length ⟨0, rfl, Nat.zero_le _, rfl, e2, e1, rfl, rfl⟩ ?_
  rintro k en h' ⟨i, rfl, hi, g6, g2, g1, g5, rfl⟩
  by_cases hh : i < x.l.length
  · obtain ⟨r, hr1, hr2⟩ := hl.get hh
    obtain ⟨lv2, rfl, _⟩ := hr2.open
    have hf : (x.l.take (i + 1)).foldl (gStep s) 0 = if (x.l[i].s.toList == s.toList) = true then (if x.l[i].kind = 2 then 3 else if x.l[i].kind = 3 then 4 else (x.l.take i).foldl (gStep s) 0) else (x.l.take i).foldl (gStep s) 0 := foldl_take hh
    generalize hA : (x.l.take i).foldl (gStep s) 0 = A at hf g5
    cases c0 : x.l[i].s.toList == s.toList
    · rw [c0, if_neg (by simp)] at hf
      simp only [SQ, SQB, zm, AOp.opds, step, Opd.get, bin, zc, IntKind.signed, zj, zl, zb, unary, ze, zd, za, zo, zr, zh, zf, zg, zp, Cp.isFull, isNil, zq, simprocAttr, SQX, V.cells, g6, g2, g1, g5, ll, hh, hr1, zC, zE, c0]
      exact ⟨x.l.length - (i + 1), by omega, i + 1, rfl, by omega, by rw [wrap_i64 (by omega) (by omega)]; rfl, by rw [hf]⟩
    rw [c0, if_pos rfl] at hf
    by_cases k2 : x.l[i].kind = 2
    · have d2 := decide_eq_true k2
      have d3 := decide_eq_false (show ¬ x.l[i].kind = 3 by omega)
      rw [if_pos k2] at hf
      simp only [SQ, SQB, zm, AOp.opds, step, Opd.get, bin, zc, IntKind.signed, zj, zl, zb, unary, ze, zd, za, zo, zr, zh, zf, zg, zp, Cp.isFull, isNil, zq, simprocAttr, SQX, V.cells, g6, g2, g1, g5, ll, hh, hr1, zC, zE, c0, d2, d3]
      exact ⟨x.l.length - (i + 1), by omega, i + 1, rfl, by omega, by rw [wrap_i64 (by omega) (by omega)]; rfl, by rw [hf]⟩
    have d2 := decide_eq_false k2
    rw [if_neg k2] at hf
    by_cases k3 : x.l[i].kind = 3
    · have d3 := decide_eq_true k3
      rw [if_pos k3] at hf
      simp only [SQ, SQB, zm, AOp.opds, step, Opd.get, bin, zc, IntKind.signed, zj, zl, zb, unary, ze, zd, za, zo, zr, zh, zf, zg, zp, Cp.isFull, isNil, zq, simprocAttr, SQX, V.cells, g6, g2, g1, g5, ll, hh, hr1, zC, zE, c0, d2, d3]
      exact ⟨x.l.length - (i + 1), by omega, i + 1, rfl, by omega, by rw [wrap_i64 (by omega) (by omega)]; rfl, by rw [hf]⟩
    · have d3 := decide_eq_false k3
      rw [if_neg k3] at hf
      simp only [SQ, SQB, zm, AOp.opds, step, Opd.get, bin, zc, IntKind.signed, zj, zl, zb, unary, ze, zd, za, zo, zr, zh, zf, zg, zp, Cp.isFull, isNil, zq, simprocAttr, SQX, V.cells, g6, g2, g1, g5, ll, hh, hr1, zC, zE, c0, d2, d3]
      exact ⟨x.l.length - (i + 1), by omega, i + 1, rfl, by omega, by rw [wrap_i64 (by omega) (by omega)]; rfl, by rw [hf]⟩
  · have : x.l.take i = x.l := List.take_of_length_le (by omega)
    rw [this] at g5
    simp only [SQ, SQB, zm, AOp.opds, step, Opd.get, bin, zc, IntKind.signed, zj, zl, zb, unary, ze, zd, za, zo, zr, zh, zf, zg, zp, Cp.isFull, isNil, zq, simprocAttr, SQX, V.cells, g6, g2, g1, g5, ll, hh, globN]
def lStep (s : ByteArray) (a : Int) (y : Nd) : Int := if (y.s.toList == s.toList) = true then (if y.kind = 5 then 1 else if y.kind = 6 then 2 else a) else a
def locN (s : ByteArray) (x : Nd) : Int := x.l.foldl (lStep s) (if x.kind = 3 ∧ (s.toList == (⟨#[114, 101, 115, 117, 108, 116]⟩ : ByteArray).toList) = true then 1 else 0)
def kindN (s : ByteArray) (p x : Nd) : Int := if locN s x = 0 then globN s p.l else locN s x
set_option maxHeartbeats 4000000 in
theorem refKind_r {base : Nat} {p x : Nd} {cp cs : List V} (s : ByteArray) (h : Heap) (hp : NdV p cp) (hv : NdV x cs) : WpF S0 base k_spinnakerref25_Kind [.agg cp, .agg cs, .sc (.string s)] h fun v h' => v = .sc (.int .i64 (kindN s p x)) ∧ h' = h := by
  have hglob := fun base h => global_r (base := base) s h hp
  obtain ⟨lp, rfl, hlp⟩ := hp.open
  obtain ⟨lv, rfl, hl⟩ := hv.open
  have ll := hl.len
  have lt := hl.lt
  first | refine zu (A := f_spinnakerref25_Kind) rfl rfl rfl rfl ?_ | refine zB (A := f_spinnakerref25_Kind) rfl rfl rfl rfl ?_
  simp only [f_spinnakerref25_Kind, oD, cD]
  refine zw (fun en' h' => en' 3 = .eptr (ndC p lp) 0 ∧ en' 4 = .eptr (ndC x lv) 0 ∧ en' 2 = .sc (.string s) ∧ h' = h) ?_ ?_
  · simp only [SQ, SQB, zm, AOp.opds, step, Opd.get, zk, bin, zc, IntKind.signed, zi, zj, zl, zb, unary, ze, zd, za, zo, zr, zh, zf, zg, zp, Cp.isFull, isNil, zq, simprocAttr, SQX, V.cells, hl.gr, hlp.gr]
  rintro en1 h1 ⟨e3, e4, e2, rfl⟩
  refine zw (fun en' h' => en' 3 = .eptr (ndC p lp) 0 ∧ en' 4 = .eptr (ndC x lv) 0 ∧ en' 2 = .sc (.string s) ∧ en' 7 = .sc (.int .i64 0) ∧ h' = h1) ?_ ?_
  · simp only [SQ, SQB, zm, AOp.opds, step, Opd.get, zk, bin, zc, IntKind.signed, zi, zj, zl, zb, unary, ze, zd, za, zo, zr, zh, zf, zg, zp, Cp.isFull, isNil, zq, simprocAttr, SQX, V.cells, e3, e4, e2]
  rintro en2 h2 ⟨f3, f4, f2, f7, rfl⟩
  generalize hz : (if x.kind = 3 ∧ (s.toList == (⟨#[114, 101, 115, 117, 108, 116]⟩ : ByteArray).toList) = true then (1 : Int) else 0) = z
  refine zw (fun en' h' => en' 3 = .eptr (ndC p lp) 0 ∧ en' 4 = .eptr (ndC x lv) 0 ∧ en' 2 = .sc (.string s) ∧ en' 7 = .sc (.int .i64 z) ∧ h' = h2) ?_ ?_
  · by_cases k3 : x.kind = 3
    · have d3 := decide_eq_true k3
      cases c0 : s.toList == (⟨#[114, 101, 115, 117, 108, 116]⟩ : ByteArray).toList
      · rw [if_neg (by rw [c0]; simp)] at hz
        subst hz
        simp only [SQ, SQB, zm, AOp.opds, step, Opd.get, zk, bin, zc, IntKind.signed, zi, zj, zl, zb, unary, ze, zd, za, zo, zr, zh, zf, zg, zp, Cp.isFull, isNil, zq, simprocAttr, SQX, V.cells, f3, f4, f2, f7, d3, c0, zE]
      · rw [if_pos ⟨k3, c0⟩] at hz
        subst hz
        simp only [SQ, SQB, zm, AOp.opds, step, Opd.get, zk, bin, zc, IntKind.signed, zi, zj, zl, zb, unary, ze, zd, za, zo, zr, zh, zf, zg, zp, Cp.isFull, isNil, zq, simprocAttr, SQX, V.cells, f3, f4, f2, f7, d3, c0, zE]
    · have d3 := decide_eq_false k3
      rw [if_neg (fun q => k3 q.1)] at hz
      subst hz
      simp only [SQ, SQB, zm, AOp.opds, step, Opd.get, zk, bin, zc, IntKind.signed, zi, zj, zl, zb, unary, ze, zd, za, zo, zr, zh, zf, zg, zp, Cp.isFull, isNil, zq, simprocAttr, SQX, V.cells, f3, f4, f2, f7, d3]
  rintro en3 h3 ⟨g3, g4, g2, g7, rfl⟩
  refine zw (fun en' h' => en' 3 = .eptr (ndC p lp) 0 ∧ en' 2 = .sc (.string s) ∧ en' 7 = .sc (.int .i64 (x.l.foldl (lStep s) z)) ∧ h' = h3) ?_ ?_
  · simp only [SQ, SQB, zm, AOp.opds, step, Opd.get, zk, bin, zc, IntKind.signed, zi, zj, zl, zb, unary, ze, zd, za, zo, zr, zh, zf, zg, zp, Cp.isFull, isNil, zq, simprocAttr, SQX, V.cells, g3, g4, g2, g7]
    refine WpC_loopI (fun k en h' => ∃ i : Nat, k = x.l.length - i ∧ i ≤ x.l.length ∧ en 8 = V.int i ∧ en 3 = .eptr (ndC p lp) 0 ∧ en 4 = .eptr (ndC x lv) 0 ∧ en 2 = .sc (.string s) ∧ en 7 = .sc (.int .i64 ((x.l.take i).foldl (lStep s) z)) ∧ h' = h3) x.l.length ⟨0, rfl, Nat.zero_le _, rfl, g3, g4, g2, g7, rfl⟩ ?_
    rintro k en h' ⟨i, rfl, hi, i8, i3, i4, i2, i7, rfl⟩
    by_cases hh : i < x.l.length
    · obtain ⟨r, hr1, hr2⟩ := hl.get hh
      obtain ⟨lv2, rfl, _⟩ := hr2.open
      have hf : (x.l.take (i + 1)).foldl (lStep s) z = if (x.l[i].s.toList == s.toList) = true then (if x.l[i].kind = 5 then 1 else if x.l[i].kind = 6 then 2 else (x.l.take i).foldl (lStep s) z) else (x.l.take i).foldl (lStep s) z := foldl_take hh
      generalize hA : (x.l.take i).foldl (lStep s) z = A at hf i7
      by_cases k2 : x.l[i].kind = 5
      · have d2 := decide_eq_true k2
        have d3 := decide_eq_false (show ¬ x.l[i].kind = 6 by omega)
        cases c0 : x.l[i].s.toList == s.toList
        · rw [c0, if_neg (by simp)] at hf
          simp only [SQ, SQB, zm, AOp.opds, step, Opd.get, bin, zc, IntKind.signed, zj, zl, zb, unary, ze, zd, za, zo, zr, zh, zf, zg, zp, Cp.isFull, isNil, zq, simprocAttr, SQX, V.cells, i8, i3, i4, i2, i7, ll, hh, hr1, zC, zE, c0, d2, d3]
          exact ⟨x.l.length - (i + 1), by omega, i + 1, rfl, by omega, by rw [wrap_i64 (by omega) (by omega)]; rfl, by rw [hf]⟩
        · rw [c0, if_pos rfl, if_pos k2] at hf
          simp only [SQ, SQB, zm, AOp.opds, step, Opd.get, bin, zc, IntKind.signed, zj, zl, zb, unary, ze, zd, za, zo, zr, zh, zf, zg, zp, Cp.isFull, isNil, zq, simprocAttr, SQX, V.cells, i8, i3, i4, i2, i7, ll, hh, hr1, zC, zE, c0, d2, d3]
          exact ⟨x.l.length - (i + 1), by omega, i + 1, rfl, by omega, by rw [wrap_i64 (by omega) (by omega)]; rfl, by rw [hf]⟩
      have d2 := decide_eq_false k2
      rw [if_neg k2] at hf
      by_cases k3 : x.l[i].kind = 6
      · have d3 := decide_eq_true k3
        cases c0 : x.l[i].s.toList == s.toList
        · rw [c0, if_neg (by simp)] at hf
          simp only [SQ, SQB, zm, AOp.opds, step, Opd.get, bin, zc, IntKind.signed, zj, zl, zb, unary, ze, zd, za, zo, zr, zh, zf, zg, zp, Cp.isFull, isNil, zq, simprocAttr, SQX, V.cells, i8, i3, i4, i2, i7, ll, hh, hr1, zC, zE, c0, d2, d3]
          exact ⟨x.l.length - (i + 1), by omega, i + 1, rfl, by omega, by rw [wrap_i64 (by omega) (by omega)]; rfl, by rw [hf]⟩
        · rw [c0, if_pos rfl, if_pos k3] at hf
          simp only [SQ, SQB, zm, AOp.opds, step, Opd.get, bin, zc, IntKind.signed, zj, zl, zb, unary, ze, zd, za, zo, zr, zh, zf, zg, zp, Cp.isFull, isNil, zq, simprocAttr, SQX, V.cells, i8, i3, i4, i2, i7, ll, hh, hr1, zC, zE, c0, d2, d3]
          exact ⟨x.l.length - (i + 1), by omega, i + 1, rfl, by omega, by rw [wrap_i64 (by omega) (by omega)]; rfl, by rw [hf]⟩
      · have d3 := decide_eq_false k3
        rw [if_neg k3, ite_self] at hf
        simp only [SQ, SQB, zm, AOp.opds, step, Opd.get, bin, zc, IntKind.signed, zj, zl, zb, unary, ze, zd, za, zo, zr, zh, zf, zg, zp, Cp.isFull, isNil, zq, simprocAttr, SQX, V.cells, i8, i3, i4, i2, i7, ll, hh, hr1, zC, d2, d3]
        exact ⟨x.l.length - (i + 1), by omega, i + 1, rfl, by omega, by rw [wrap_i64 (by omega) (by omega)]; rfl, by rw [hf]⟩
    · have : x.l.take i = x.l := List.take_of_length_le (by omega)
      rw [this] at i7
      simp only [SQ, SQB, zm, AOp.opds, step, Opd.get, bin, zc, IntKind.signed, zj, zl, zb, unary, ze, zd, za, zo, zr, zh, zf, zg, zp, Cp.isFull, isNil, zq, simprocAttr, SQX, V.cells, i8, i3, i4, i2, i7, ll, hh]
  rintro en4 h4 ⟨j3, j2, j7, rfl⟩
  have hL : locN s x = x.l.foldl (lStep s) z := by unfold locN; rw [hz]
  unfold kindN
  rw [← hL] at j7
  by_cases h0 : locN s x = 0
  · have d0 := decide_eq_true h0
    rw [if_pos h0]
    simp only [SQ, SQB, zm, AOp.opds, step, Opd.get, zk, bin, zc, IntKind.signed, zi, zj, zl, zb, unary, ze, zd, za, zo, zr, zh, zf, zg, zp, Cp.isFull, isNil, zq, simprocAttr, SQX, V.cells, j3, j2, j7, d0, zC, zn (hglob _ _)]
  · have d0 := decide_eq_false h0
    rw [if_neg h0]
    simp only [SQ, SQB, zm, AOp.opds, step, Opd.get, zk, bin, zc, IntKind.signed, zi, zj, zl, zb, unary, ze, zd, za, zo, zr, zh, zf, zg, zp, Cp.isFull, isNil, zq, simprocAttr, SQX, V.cells, j3, j2, j7, d0]
end
section
theorem ba_beq (a b : ByteArray) : (a == b) = true ↔ a = b := by
  cases a; cases b; constructor
  · intro h; congr; exact eq_of_beq h
  · intro h; cases h; exact beq_self_eq_true (α := Array UInt8) _
abbrev mEnt (p : ByteArray × Int) : Value × V := (.string p.1, .sc (.int .i64 p.2))
def getI : List (ByteArray × Int) → ByteArray → Int
  | [], _ => 0
  | p :: r, t => if (t == p.1) = true then p.2 else getI r t
def putI : List (ByteArray × Int) → ByteArray → Int → List (ByteArray × Int)
  | [], s, n => [(s, n)]
  | p :: r, s, n => if (s == p.1) = true then (s, n) :: r else p :: putI r s n
theorem get_put (s t : ByteArray) (n : Int) : ∀ ms : List (ByteArray × Int), getI (putI ms s n) t = if t = s then n else getI ms t
  | [] => by simp only [putI, getI, ba_beq]
  | p :: r => by
    have ih := get_put s t n r
    unfold putI
    by_cases h : s = p.1
    · rw [if_pos ((ba_beq _ _).2 h)]
      simp only [getI, ba_beq]
      by_cases h2 : t = s
      · rw [if_pos h2, if_pos h2]
      · rw [if_neg h2, if_neg h2, if_neg (fun q => h2 (q.trans h.symm))]
    · rw [if_neg (fun q => h ((ba_beq _ _).1 q))]
      simp only [getI, ba_beq, ih]
      by_cases h2 : t = p.1
      · rw [if_pos h2, if_neg (fun q => h (q.symm.trans h2)), if_pos h2]
      · rw [if_neg h2, if_neg h2]
theorem upd_map (s : ByteArray) (n : Int) : ∀ (ms : List (ByteArray × Int)) (pre : List (Value × V)), ((findM (.string s) (ms.map mEnt) pre.length).map fun r => match r with
      | some (i, _) => (pre ++ ms.map mEnt).set i (mEnt (s, n))
      | none => pre ++ ms.map mEnt ++ [mEnt (s, n)]) = some (pre ++ (putI ms s n).map mEnt)
  | [], pre => by simp [findM, putI]
  | p :: r, pre => by
    have ih := upd_map s n r (pre ++ [mEnt p])
    unfold putI
    simp only [List.map_cons, findM, keyEq]
    cases h : s == p.1
    · simp only [List.length_append, List.length_cons, List.length_nil, Nat.zero_add, List.append_assoc, List.cons_append, List.nil_append] at ih
      simpa using ih
    · simp [List.set_append_right]
theorem look_map (t : ByteArray) : ∀ (ms : List (ByteArray × Int)) (i : Nat), ∃ b, ((findM (.string t) (ms.map mEnt) i).map fun r => match r with
      | some (_, v) => (v, true)
      | none => (V.sc (.int .i64 0), false)) = some (V.sc (.int .i64 (getI ms t)), b)
  | [], i => ⟨false, by simp [findM, getI]⟩
  | p :: r, i => by
    unfold getI
    simp only [List.map_cons, findM, keyEq]
    cases h : t == p.1
    · exact look_map t r (i + 1)
    · exact ⟨true, rfl⟩
end
section
theorem list_eq (s t : ByteArray) : (s.toList == t.toList) = decide (s = t) := by
  have h := str_eq s t.data.toList
  rw [Array.toArray_toList] at h
  refine h.trans ?_
  rw [decide_eq_decide]
  cases s; cases t
  simp
section
variable {h : Heap} {ms : List (ByteArray × Int)}
theorem upd_h {base : Nat} (s : ByteArray) (n : Int) : updateV base (h ++ [.mmap (ms.map mEnt)]) .s (.mp h.length) (.sc (.string s)) (.sc (.int .i64 n)) = some (h ++ [.mmap ((putI ms s n).map mEnt)]) := by
  have hu := upd_map s n ms []
  have hg : (h ++ [Obj.mmap (ms.map mEnt)])[h.length]? = some (.mmap (ms.map mEnt)) := by simp
  have hc : ((V.sc (.int .i64 n)).cells.all zm = true ∧ mayStore base h.length [V.sc (.int .i64 n)] = true) := ⟨rfl, by unfold mayStore; rw [Bool.or_eq_true]; exact .inr rfl⟩
  simp only [List.nil_append, List.length_nil] at hu
  simp only [updateV, keyIs, Option.bind_some, hg]
  rw [if_pos hc]
  cases hf : findM (.string s) (ms.map mEnt) 0 with
  | none => rw [hf] at hu; simp at hu
  | some r =>
    rw [hf] at hu
    cases r with
    | none => simp only [Option.map_some, Option.some.injEq] at hu ⊢; rw [hu]; simp [List.set_append_right]
    | some p => obtain ⟨i, v⟩ := p; simp only [Option.map_some, Option.some.injEq] at hu ⊢; rw [hu]; simp [List.set_append_right]
theorem look_h (z : Bool) (t : ByteArray) : ∃ b, lookupV (h ++ [.mmap (ms.map mEnt)]) .s (.sc (.int .i64 0)) (.mp h.length) (.sc (.string t)) = some (.sc (.int .i64 (getI ms t)), b) := by
  have hg : (h ++ [Obj.mmap (ms.map mEnt)])[h.length]? = some (.mmap (ms.map mEnt)) := by simp
  simp only [lookupV, keyIs, Option.bind_some, hg]
  exact look_map t ms 0
end
end
section
def iniN (s : ByteArray) (x : Nd) : Int := if x.kind = 3 ∧ (s.toList == (⟨#[114, 101, 115, 117, 108, 116]⟩ : ByteArray).toList) = true then (1 : Int) else 0
theorem iniN_eq (s : ByteArray) (x : Nd) : iniN s x = if s = ⟨#[114, 101, 115, 117, 108, 116]⟩ then (if x.kind = 3 then 1 else 0) else 0 := by
  unfold iniN
  simp only [list_eq, decide_eq_true_eq]
  by_cases h : s = ⟨#[114, 101, 115, 117, 108, 116]⟩ <;> by_cases k : x.kind = 3 <;> simp [h, k]
theorem lStep_eq (s : ByteArray) (a : Int) (y : Nd) : lStep s a y = if s = y.s then (if y.kind = 5 then 1 else if y.kind = 6 then 2 else a) else a := by
  unfold lStep
  simp only [list_eq, decide_eq_true_eq]
  by_cases h : y.s = s
  · rw [if_pos h, if_pos h.symm]
  · rw [if_neg h, if_neg (fun q => h q.symm)]
set_option maxHeartbeats 2000000 in
theorem local_r {base : Nat} {x : Nd} {cs : List V} (h : Heap) (hv : NdV x cs) : WpF S0 base k_check_local [.agg cs] h fun v h' => ∃ ms, v = .mp h.length ∧ h' = h ++ [.mmap (ms.map mEnt)] ∧ ∀ s, getI ms s = locN s x := by
  obtain ⟨lv, rfl, hl⟩ := hv.open
  have ll := hl.len
  have lt := hl.lt
  first | refine zu (A := f_check_local) rfl rfl rfl rfl ?_ | refine zB (A := f_check_local) rfl rfl rfl rfl ?_
  simp only [f_check_local, oD, cD]
  refine zw (fun en' h' => en' 1 = .eptr (ndC x lv) 0 ∧ h' = h) ?_ ?_
  · simp only [SQ, SQB, zm, AOp.opds, step, Opd.get, zk, bin, zc, IntKind.signed, zi, zj, zl, zb, unary, ze, zd, za, zo, zr, zh, zf, zg, zp, Cp.isFull, isNil, zq, simprocAttr, SQX, V.cells, hl.gr]
  rintro en1 h1 ⟨e1, rfl⟩
  refine zw (fun en' h' => en' 1 = .eptr (ndC x lv) 0 ∧ en' 3 = .mp h1.length ∧ h' = h1 ++ [.mmap (([] : List (ByteArray × Int)).map mEnt)]) ?_ ?_
  · simp only [SQ, SQB, zm, AOp.opds, step, Opd.get, zk, bin, zc, IntKind.signed, zi, zj, zl, zb, unary, ze, zd, za, zo, zr, zh, zf, zg, zp, Cp.isFull, isNil, zq, simprocAttr, SQX, V.cells, e1]
    rfl
  rintro en2 h2 ⟨f1, f3, rfl⟩
  refine zw (fun en' h' => en' 1 = .eptr (ndC x lv) 0 ∧ en' 3 = .mp h1.length ∧ ∃ ms : List (ByteArray × Int), h' = h1 ++ [.mmap (ms.map mEnt)] ∧ ∀ s, getI ms s = (iniN s x)) ?_ ?_
  · by_cases k3 : x.kind = 3
    · have d3 := decide_eq_true k3
      simp only [SQ, SQB, zm, AOp.opds, step, Opd.get, zk, bin, zc, IntKind.signed, zi, zj, zl, zb, unary, ze, zd, za, zo, zr, zh, zf, zg, zp, Cp.isFull, isNil, zq, simprocAttr, SQX, V.cells, f1, f3, d3, upd_h]
      refine ⟨_, rfl, fun s => ?_⟩
      rw [get_put, iniN_eq, if_pos k3]
      rfl
    · have d3 := decide_eq_false k3
      simp only [SQ, SQB, zm, AOp.opds, step, Opd.get, zk, bin, zc, IntKind.signed, zi, zj, zl, zb, unary, ze, zd, za, zo, zr, zh, zf, zg, zp, Cp.isFull, isNil, zq, simprocAttr, SQX, V.cells, f1, f3, d3]
      exact ⟨_, rfl, fun s => by rw [iniN_eq, if_neg k3, ite_self]; rfl⟩
  rintro en3 h3 ⟨g1, g3, ms, rfl, hms⟩
  refine zw (fun en' h' => en' 3 = .mp h1.length ∧ ∃ ms : List (ByteArray × Int), h' = h1 ++ [.mmap (ms.map mEnt)] ∧ ∀ s, getI ms s = locN s x) ?_ ?_
  · simp only [SQ, SQB, zm, AOp.opds, step, Opd.get, bin, zc, IntKind.signed, zi, zj, zl, zb, unary, ze, zd, za, zo, zr, zh, zf, zg, zp, Cp.isFull, isNil, zq, simprocAttr, SQX, V.cells, g1, g3, ll]
    refine WpC_loopI (fun k en h' => ∃ i : Nat, k = x.l.length - i ∧ i ≤ x.l.length ∧ en 14 = V.int i ∧ en 13 = V.int x.l.length ∧ en 12 = lv ∧ en 3 = .mp h1.length ∧ ∃ ms : List (ByteArray × Int), h' = h1 ++ [.mmap (ms.map mEnt)] ∧ ∀ s, getI ms s = (x.l.take i).foldl (lStep s) (iniN s x)) x.l.length ⟨0, rfl, Nat.zero_le _, rfl, rfl, rfl, g3, ms, rfl, hms⟩ ?_
    rintro k en h' ⟨i, rfl, hi, i14, i13, i12, i3, m2, rfl, hm2⟩
    by_cases hh : i < x.l.length
    · obtain ⟨r, hr1, hr2⟩ := hl.get hh
      obtain ⟨lv2, rfl, hl2⟩ := hr2.open
      by_cases k2 : x.l[i].kind = 5
      · have d2 := decide_eq_true k2
        simp only [SQ, SQB, zm, AOp.opds, step, Opd.get, bin, zc, IntKind.signed, zj, zl, zb, unary, ze, zd, za, zo, zr, zh, zf, zg, zp, Cp.isFull, isNil, zq, simprocAttr, SQX, V.cells, i14, i13, i12, i3, hh, hr1, zC, d2, upd_h, hl2.gr]
        exact ⟨x.l.length - (i + 1), by omega, i + 1, rfl, by omega, by rw [wrap_i64 (by omega) (by omega)]; rfl, _, rfl, fun s => by rw [get_put, hm2, foldl_take hh, lStep_eq, if_pos k2]⟩
      have d2 := decide_eq_false k2
      by_cases k3 : x.l[i].kind = 6
      · have d3 := decide_eq_true k3
        simp only [SQ, SQB, zm, AOp.opds, step, Opd.get, bin, zc, IntKind.signed, zj, zl, zb, unary, ze, zd, za, zo, zr, zh, zf, zg, zp, Cp.isFull, isNil, zq, simprocAttr, SQX, V.cells, i14, i13, i12, i3, hh, hr1, zC, d2, d3, upd_h, hl2.gr]
        exact ⟨x.l.length - (i + 1), by omega, i + 1, rfl, by omega, by rw [wrap_i64 (by omega) (by omega)]; rfl, _, rfl, fun s => by rw [get_put, hm2, foldl_take hh, lStep_eq, if_neg k2, if_pos k3]⟩
      · have d3 := decide_eq_false k3
        simp only [SQ, SQB, zm, AOp.opds, step, Opd.get, bin, zc, IntKind.signed, zj, zl, zb, unary, ze, zd, za, zo, zr, zh, zf, zg, zp, Cp.isFull, isNil, zq, simprocAttr, SQX, V.cells, i14, i13, i12, i3, hh, hr1, zC, d2, d3, hl2.gr]
        exact ⟨x.l.length - (i + 1), by omega, i + 1, rfl, by omega, by rw [wrap_i64 (by omega) (by omega)]; rfl, _, rfl, fun s => by rw [hm2, foldl_take hh, lStep_eq, if_neg k2, if_neg k3, ite_self]⟩
    · have : x.l.take i = x.l := List.take_of_length_le (by omega)
      rw [this] at hm2
      simp only [SQ, SQB, zm, AOp.opds, step, Opd.get, bin, zc, IntKind.signed, zj, zl, zb, unary, ze, zd, za, zo, zr, zh, zf, zg, zp, Cp.isFull, isNil, zq, simprocAttr, SQX, V.cells, i14, i13, i12, i3, hh]
      exact ⟨_, rfl, hm2⟩
  rintro en4 h4 ⟨j3, m4, rfl, hm4⟩
  simp only [SQ, SQB, zm, AOp.opds, step, Opd.get, zk, bin, zc, IntKind.signed, zi, zj, zl, zb, unary, ze, zd, za, zo, zr, zh, zf, zg, zp, Cp.isFull, isNil, zq, simprocAttr, SQX, V.cells, j3]
  exact ⟨_, rfl, hm4⟩
end
section
section
variable {h : Heap} {ms : List (ByteArray × Int)} {b : Nat}
theorem upd_b {base : Nat} (s : ByteArray) (n : Int) (hg : h[b]? = some (.mmap (ms.map mEnt))) : updateV base h .s (.mp b) (.sc (.string s)) (.sc (.int .i64 n)) = some (h.set b (.mmap ((putI ms s n).map mEnt))) := by
  have hu := upd_map s n ms []
  have hc : ((V.sc (.int .i64 n)).cells.all zm = true ∧ mayStore base b [V.sc (.int .i64 n)] = true) := ⟨rfl, by unfold mayStore; rw [Bool.or_eq_true]; exact .inr rfl⟩
  simp only [List.nil_append, List.length_nil] at hu
  simp only [updateV, keyIs, Option.bind_some, hg]
  rw [if_pos hc]
  cases hf : findM (.string s) (ms.map mEnt) 0 with
  | none => rw [hf] at hu; simp at hu
  | some r =>
    rw [hf] at hu
    cases r with
    | none => simp only [Option.map_some, Option.some.injEq] at hu ⊢; rw [hu]
    | some p => obtain ⟨i, v⟩ := p; simp only [Option.map_some, Option.some.injEq] at hu ⊢; rw [hu]
theorem look_b (t : ByteArray) (hg : h[b]? = some (.mmap (ms.map mEnt))) : ∃ q, lookupV h .s (.sc (.int .i64 0)) (.mp b) (.sc (.string t)) = some (.sc (.int .i64 (getI ms t)), q) := by
  simp only [lookupV, keyIs, Option.bind_some, hg]
  exact look_map t ms 0
end
set_option maxHeartbeats 1000000 in
theorem ckind_r {base b c d : Nat} {h : Heap} {cc : List V} {t : TypeId} {ms mg : List (ByteArray × Int)} (s : ByteArray) (hb : h[b]? = some (.mmap (ms.map mEnt))) (hc : h[c]? = some (.box t cc)) (h7 : cc[7]? = some (.mp d)) (hd : h[d]? = some (.mmap (mg.map mEnt))) :
    WpF S0 base k_check_checker_kind [.ptr c 0, .mp b, .sc (.string s)] h fun v h' => v = .sc (.int .i64 (if getI ms s = 0 then getI mg s else getI ms s)) ∧ h' = h := by
  obtain ⟨q1, l1⟩ := look_b s hb
  obtain ⟨q2, l2⟩ := look_b s hd
  first | refine zu (A := f_check_checker_kind) rfl rfl rfl rfl ?_ | refine zB (A := f_check_checker_kind) rfl rfl rfl rfl ?_
  simp only [f_check_checker_kind, oD, cD]
  by_cases h0 : getI ms s = 0
  · have d0 := decide_eq_true h0
    rw [if_pos h0]
    simp only [SQ, SQB, zm, AOp.opds, step, Opd.get, zk, bin, zc, IntKind.signed, zi, zj, zl, zb, unary, ze, zd, za, zo, zr, zh, zf, zg, zp, Cp.isFull, isNil, zq, simprocAttr, SQX, V.cells, l1, l2, d0, hc, h7, List.take_length]
  · have d0 := decide_eq_false h0
    rw [if_neg h0]
    simp only [SQ, SQB, zm, AOp.opds, step, Opd.get, zk, bin, zc, IntKind.signed, zi, zj, zl, zb, unary, ze, zd, za, zo, zr, zh, zf, zg, zp, Cp.isFull, isNil, zq, simprocAttr, SQX, V.cells, l1, d0, List.take_length]
end
section
abbrev Er := Int × Int
abbrev Ck := Bool × Int × Int
def wrongE (e : Er) (c : Ck) : Er := if c.1 = true ∧ e.2 = 0 then (c.2.1, c.2.2) else e
abbrev hitE (l : List Ck) (e : Er) : Er := l.foldl wrongE e
theorem wrong_stop {e : Er} {c : Ck} (h : e.2 ≠ 0) : wrongE e c = e := by unfold wrongE; rw [if_neg (fun q => h q.2)]
theorem hit_stop {e : Er} (h : e.2 ≠ 0) : ∀ l : List Ck, hitE l e = e
  | [] => rfl
  | c :: r => by rw [hitE, List.foldl_cons, wrong_stop h]; exact hit_stop h r
theorem hit_app (a b : List Ck) (e : Er) : hitE (a ++ b) e = hitE b (hitE a e) := List.foldl_append
def nosL (l : List Ck) : Prop := ∀ c ∈ l, c.2.2 ≠ 0
theorem hit0 : ∀ {l : List Ck}, nosL l → (hitE l (0, 0)).2 = 0 → hitE l (0, 0) = (0, 0)
  | [], _, _ => rfl
  | c :: r, hn, h => by
    simp only [hitE, List.foldl_cons] at h ⊢
    by_cases hc : c.1 = true
    · have h1 : wrongE (0, 0) c = (c.2.1, c.2.2) := by unfold wrongE; rw [if_pos ⟨hc, rfl⟩]
      have h2 := hn c (List.mem_cons_self ..)
      rw [h1] at h
      have := hit_stop (e := (c.2.1, c.2.2)) h2 r
      rw [hitE] at this
      rw [this] at h
      exact absurd h h2
    · have h1 : wrongE (0, 0) c = (0, 0) := by unfold wrongE; rw [if_neg (fun q => hc q.1)]
      rw [h1] at h ⊢
      exact hit0 (fun c hc => hn c (List.mem_cons_of_mem _ hc)) h
abbrev ckC (x : Nd) (lv : V) (d1 d2 : Nat) (e : Er) : List V := [.sc (.int .i64 x.kind), .sc (.string x.s), .sc (.string x.t), .sc (.int .i64 x.n), .sc (.int .i64 x.ord), .sc (.int .i64 x.line), lv, .mp d1, .mp d2, .sc (.int .i64 e.1), .sc (.int .i64 e.2)]
theorem storeB {base c : Nat} {h : Heap} {x : Nd} {lv : V} {d1 d2 : Nat} {e : Er} {l n : Int} (hc : h[c]? = some (.box 49 (ckC x lv d1 d2 e))) : storeV base h 2 (.ptr c 9) (.agg [.sc (.int .i64 l), .sc (.int .i64 n)]) = some (h.set c (.box 49 (ckC x lv d1 d2 (l, n)))) := by
  refine (store_box (x := .agg [.sc (.int .i64 l), .sc (.int .i64 n)]) hc rfl rfl (by simp [V.cells]) (by simp [mayStore, V.cells, refsLts, refsLt])).trans ?_
  rfl
theorem set_same {h : Heap} {c : Nat} {o : Obj} (hc : h[c]? = some o) : h.set c o = h := by
  apply List.ext_getElem?
  intro i
  rw [List.getElem?_set]
  by_cases q : c = i
  · subst q
    have : c < h.length := by
      rcases Nat.lt_or_ge c h.length with w | w
      · exact w
      · rw [List.getElem?_eq_none w] at hc; simp at hc
    rw [if_pos rfl, if_pos this, hc]
  · rw [if_neg q]
theorem set_take {h : Heap} {c : Nat} {o : Obj} : (h.set c o).take h.length = h.set c o := List.take_of_length_le (by simp)
theorem fill2 {a b : Value} {z y : V} : fillParts [z, y] [(0, 1, .sc a), (1, 1, .sc b)] = some [.sc a, .sc b] := rfl
set_option maxHeartbeats 1000000 in
theorem wrong_r {base c : Nat} {h : Heap} {x : Nd} {lv : V} {d1 d2 : Nat} {e : Er} (is : Bool) (line no : Int) (hc : h[c]? = some (.box 49 (ckC x lv d1 d2 e))) :
    WpF S0 base k_check_checker_wrong [.ptr c 0, .sc (.bool is), .sc (.int .i64 line), .sc (.int .i64 no)] h fun v h' => v = .tup [] ∧ h' = h.set c (.box 49 (ckC x lv d1 d2 (wrongE e (is, line, no)))) := by
  first | refine zu (A := f_check_checker_wrong) rfl rfl rfl rfl ?_ | refine zB (A := f_check_checker_wrong) rfl rfl rfl rfl ?_
  simp only [f_check_checker_wrong, oD, cD]
  (simp only [SQ, zm, AOp.opds, step, Opd.get, zk, bin, zc, IntKind.signed, zi, zj, zl, zb, unary, ze, zd, za, zo, zr, zh, zf, zg, zp, Cp.isFull, isNil, zq, simprocAttr, SQX, V.cells, hc, storeB hc, getParts, fill2]; repeat' ((first | refine condQ_i ?_ ?_ | refine guardQ_t ?_ ?_ | refine guardQ_f ?_ ?_) <;> (intro hb; simp only [SQ, zm, AOp.opds, step, Opd.get, zk, bin, zc, IntKind.signed, zi, zj, zl, zb, unary, ze, zd, za, zo, zr, zh, zf, zg, zp, Cp.isFull, isNil, zq, simprocAttr, SQX, V.cells, hb, hc, storeB hc, getParts, fill2])))
  all_goals simp_all [wrongE, set_take, set_same hc]
theorem set_get {h : Heap} {c : Nat} {o p : Obj} (hc : h[c]? = some o) : (h.set c p)[c]? = some p := by
  have := (List.getElem?_eq_some_iff.1 hc).1
  simp [this]
theorem set_other {h : Heap} {b c : Nat} {o p q : Obj} (hb : h[b]? = some o) (hc : h[c]? = some p) (hne : o ≠ p) : (h.set c q)[b]? = some o := by
  have : c ≠ b := by rintro rfl; rw [hb] at hc; injection hc with hc; exact hne hc
  rw [List.getElem?_set_ne this, hb]
def needL (k kind line : Int) : List Ck := [(decide (k = 0), line, 23), (!decide (k = kind), line, 25)]
def kOf (ms mg : List (ByteArray × Int)) (s : ByteArray) : Int := if getI ms s = 0 then getI mg s else getI ms s
section
variable {base b c d1 d2 : Nat} {h : Heap} {x : Nd} {lv : V} {e : Er} {ms mg : List (ByteArray × Int)}
set_option maxHeartbeats 1000000 in
theorem need_r (s : ByteArray) (kind line : Int) (hb : h[b]? = some (.mmap (ms.map mEnt))) (hc : h[c]? = some (.box 49 (ckC x lv d1 d2 e))) (hd : h[d1]? = some (.mmap (mg.map mEnt))) :
    WpF S0 base k_check_checker_need [.ptr c 0, .mp b, .sc (.string s), .sc (.int .i64 kind), .sc (.int .i64 line)] h fun v h' => v = .tup [] ∧ h' = h.set c (.box 49 (ckC x lv d1 d2 (hitE (needL (kOf ms mg s) kind line) e))) := by
  have hk := fun base => ckind_r (base := base) s hb hc rfl hd
  have hw0 := fun base is line no => wrong_r (base := base) is line no hc
  have hw := fun base e' is line no => wrong_r (base := base) (h := h.set c (.box 49 (ckC x lv d1 d2 e'))) is line no (set_get hc)
  first | refine zu (A := f_check_checker_need) rfl rfl rfl rfl ?_ | refine zB (A := f_check_checker_need) rfl rfl rfl rfl ?_
  simp only [f_check_checker_need, oD, cD]
  (simp only [SQ, zm, AOp.opds, step, Opd.get, zk, bin, zc, IntKind.signed, zi, zj, zl, zb, unary, ze, zd, za, zo, zr, zh, zf, zg, zp, Cp.isFull, isNil, zq, simprocAttr, SQX, V.cells, zn (hk _), zn (hw0 _ _ _ _), zn (hw _ _ _ _ _), List.set_set, set_take]; repeat' ((first | refine condQ_i ?_ ?_ | refine guardQ_t ?_ ?_ | refine guardQ_f ?_ ?_) <;> (intro hb; simp only [SQ, zm, AOp.opds, step, Opd.get, zk, bin, zc, IntKind.signed, zi, zj, zl, zb, unary, ze, zd, za, zo, zr, zh, zf, zg, zp, Cp.isFull, isNil, zq, simprocAttr, SQX, V.cells, hb, zn (hk _), zn (hw0 _ _ _ _), zn (hw _ _ _ _ _), List.set_set, set_take])))
  rfl
end
def n2 (k : Int) : Int × Int := if k = 8 ∨ k = 21 then (1, 0) else if k = 9 ∨ k = 22 then (2, 0) else if k = 10 ∨ k = 12 ∨ k = 13 then (1, 3) else if k = 11 then (3, 0) else if k = 18 then (1, 4) else (0, 0)
set_option maxHeartbeats 1000000 in
theorem names2_r {base : Nat} (k : Int) (h : Heap) : WpF S0 base k_check_names2 [.sc (.int .i64 k)] h fun v h' => v = .tup [.sc (.int .i64 (n2 k).1), .sc (.int .i64 (n2 k).2)] ∧ h' = h := by
  first | refine zu (A := f_check_names2) rfl rfl rfl rfl ?_ | refine zB (A := f_check_names2) rfl rfl rfl rfl ?_
  simp only [f_check_names2, oD, cD]
  (simp only [SQ, zm, AOp.opds, step, Opd.get, zk, bin, zc, IntKind.signed, zi, zj, zl, zb, unary, ze, zd, za, zo, zr, zh, zf, zg, zp, Cp.isFull, isNil, zq, simprocAttr, SQX, V.cells]; repeat' ((first | refine condQ_i ?_ ?_ | refine guardQ_t ?_ ?_ | refine guardQ_f ?_ ?_) <;> (intro hb; simp only [SQ, zm, AOp.opds, step, Opd.get, zk, bin, zc, IntKind.signed, zi, zj, zl, zb, unary, ze, zd, za, zo, zr, zh, zf, zg, zp, Cp.isFull, isNil, zq, simprocAttr, SQX, V.cells, hb])))
  all_goals simp_all [n2]
end
section
theorem indexFuncN_r {base : Nat} {g : FuncId} (cap : List V) (p : Nd → Bool) {lv : V} {l : List Nd} (hl : LV lv l) (h : Heap) (hg : ∀ y ∈ l, ∀ cs, NdV y cs → ∀ base, WpF S0 base g (.agg cs :: cap) h fun v h' => v = .bool (p y) ∧ h' = h) :
    WpF S0 base k_slices_IndexFuncapi_Nodeapi_Node [lv, .fn (.func g) [] cap] h fun v h' => (∃ n : Int, v = .sc (.int .i64 n) ∧ decide (0 ≤ n) = l.any p) ∧ h' = h := by
  first | refine zu (A := f_slices_IndexFuncapi_Nodeapi_Node) rfl rfl rfl rfl ?_ | refine zB (A := f_slices_IndexFuncapi_Nodeapi_Node) rfl rfl rfl rfl ?_
  have ll := hl.len
  have lt := hl.lt
  simp only [f_slices_IndexFuncapi_Nodeapi_Node, oD, cD]
  simp only [SQ, SQB, zm, AOp.opds, step, Opd.get, bin, zc, IntKind.signed, zi, zj, zl, zb, unary, ze, zd, za, zo, zr, zh, zf, zg, zp, Cp.isFull, isNil, zq, simprocAttr, SQX, V.cells, ll]
  refine WpC_loopI (fun k en h' => ∃ i : Nat, k = l.length - i ∧ i ≤ l.length ∧ en 8 = V.int i ∧ en 7 = V.int l.length ∧ en 0 = lv ∧ en 1 = .fn (.func g) [] cap ∧ (l.take i).any p = false ∧ h' = h) l.length ⟨0, rfl, Nat.zero_le _, rfl, rfl, rfl, rfl, rfl, rfl⟩ ?_
  rintro k en h' ⟨i, rfl, hi, e8, e7, e0, e1, hno, rfl⟩
  by_cases h1 : i < l.length
  · obtain ⟨r, hr1, hr2⟩ := hl.get h1
    have hc := fun base => hg l[i] (List.getElem_mem h1) _ hr2 base
    have htk : l.take (i + 1) = l.take i ++ [l[i]] := by rw [List.take_add_one, List.getElem?_eq_getElem h1]; rfl
    cases h2 : p l[i]
    · rw [h2] at hc
      simp only [SQ, SQB, zm, AOp.opds, step, Opd.get, bin, zc, IntKind.signed, zj, zb, unary, ze, zd, za, zo, zr, zh, zf, zg, zp, Cp.isFull, isNil, zq, simprocAttr, SQX, V.cells, e8, e7, e0, e1, h1, hr1, agg_load hr2.len, zn (hc _)]
      exact ⟨l.length - (i + 1), by omega, i + 1, rfl, by omega, by rw [wrap_i64 (by omega) (by omega)]; rfl, by rw [htk, List.any_append, hno]; simp [h2]⟩
    · rw [h2] at hc
      simp only [SQ, SQB, zm, AOp.opds, step, Opd.get, bin, zc, IntKind.signed, zj, zb, unary, ze, zd, za, zo, zr, zh, zf, zg, zp, Cp.isFull, isNil, zq, simprocAttr, SQX, V.cells, e8, e7, e0, e1, h1, hr1, agg_load hr2.len, zn (hc _)]
      have : l.any p = true := List.any_eq_true.2 ⟨l[i], List.getElem_mem h1, h2⟩
      exact ⟨i, rfl, by rw [this]; simp⟩
  · have : l.take i = l := List.take_of_length_le (by omega)
    rw [this] at hno
    simp only [SQ, SQB, zm, AOp.opds, step, Opd.get, bin, zc, IntKind.signed, zj, zb, unary, ze, zd, za, zo, zr, zh, zf, zg, zp, Cp.isFull, isNil, zq, simprocAttr, SQX, V.cells, e8, e7, e0, h1]
    exact ⟨-1, rfl, by rw [hno]; rfl⟩
theorem containsFuncN_r {base : Nat} {g : FuncId} (cap : List V) (p : Nd → Bool) {lv : V} {l : List Nd} (hl : LV lv l) (h : Heap) (hg : ∀ y ∈ l, ∀ cs, NdV y cs → ∀ base, WpF S0 base g (.agg cs :: cap) h fun v h' => v = .bool (p y) ∧ h' = h) :
    WpF S0 base k_slices_ContainsFuncapi_Nodeapi_Node [lv, .fn (.func g) [] cap] h fun v h' => v = .bool (l.any p) ∧ h' = h := by
  first | refine zu (A := f_slices_ContainsFuncapi_Nodeapi_Node) rfl rfl rfl rfl ?_ | refine zB (A := f_slices_ContainsFuncapi_Nodeapi_Node) rfl rfl rfl rfl ?_
  obtain ⟨n, hn, hw⟩ := callD_ex (indexFuncN_r (base := h.length) cap p hl h hg)
  simp only [f_slices_ContainsFuncapi_Nodeapi_Node, oD, cD]
  simp only [SQ, SQB, zm, AOp.opds, step, Opd.get, zk, bin, zc, IntKind.signed, zi, zj, zl, zb, unary, ze, zd, za, zo, zr, zh, zf, zg, zp, Cp.isFull, isNil, zq, simprocAttr, SQX, V.cells, zn hw, hn]
theorem all_r {base : Nat} {g : FuncId} (p : Nd → Bool) {lv : V} {l : List Nd} (hl : LV lv l) (h : Heap) (hg : ∀ y ∈ l, ∀ cs, NdV y cs → ∀ base h, WpF S0 base g [.agg cs] h fun v h' => v = .bool (p y) ∧ h' = h) :
    WpF S0 base k_ast_all [lv, .fn (.func g) [] []] h fun v h' => v = .bool (l.all p) ∧ h' = h := by
  first | refine zu (A := f_ast_all) rfl rfl rfl rfl ?_ | refine zB (A := f_ast_all) rfl rfl rfl rfl ?_
  have hc : ∀ y ∈ l, ∀ cs, NdV y cs → ∀ base, WpF S0 base k_ast_all_1 (.agg cs :: [.ptr h.length 0]) (h ++ [.box 25 [.fn (.func g) [] []]]) fun v h' => v = .bool (!p y) ∧ h' = h ++ [.box 25 [.fn (.func g) [] []]] := by
    intro y hy cs hv base
    first | refine zu (A := f_ast_all_1) rfl rfl rfl rfl ?_ | refine zB (A := f_ast_all_1) rfl rfl rfl rfl ?_
    obtain ⟨lv, rfl, hl⟩ := hv.open
    simp only [f_ast_all_1, oD, cD]
    simp only [SQ, SQB, zm, AOp.opds, step, Opd.get, zk, bin, zc, IntKind.signed, zi, zj, zl, zb, unary, ze, zd, za, zo, zr, zh, zf, zg, zp, Cp.isFull, isNil, zq, simprocAttr, SQX, V.cells, hl.gr, last_get, zC, zn (hg y hy _ hv _ _)]
  have hw := fun base => containsFuncN_r (base := base) [.ptr h.length 0] (fun y => !p y) hl (h ++ [.box 25 [.fn (.func g) [] []]]) hc
  simp only [f_ast_all, oD, cD]
  simp only [SQ, SQB, zm, AOp.opds, step, Opd.get, zk, bin, zc, IntKind.signed, zi, zj, zl, zb, unary, ze, zd, za, zo, zr, zh, zf, zg, zp, Cp.isFull, isNil, zq, simprocAttr, SQX, V.cells, zn (hw _), last_take]
  simp [List.not_any_eq_all_not]
def MayOk (x : Nd) : Prop := ∀ (base : Nat) (cs : List V) (h : Heap), NdV x cs → WpF S0 base k_ast_may [.agg cs] h fun v h' => v = .bool (mayN zA x) ∧ h' = h
theorem aexpression_r {x : Nd} (hm : MayOk x) {base : Nat} {cs : List V} {h : Heap} (hv : NdV x cs) : WpF S0 base k_ast_expression [.agg cs] h fun v h' => v = .bool (okK zA 20 24 x) ∧ h' = h := by
  first | refine zu (A := f_ast_expression) rfl rfl rfl rfl ?_ | refine zB (A := f_ast_expression) rfl rfl rfl rfl ?_
  have hc := fun base h => hm base _ h hv
  obtain ⟨lv, rfl, hl⟩ := hv.open
  unfold okK
  simp only [f_ast_expression, oD, cD]
  by_cases h1 : 20 ≤ x.kind
  · by_cases h2 : x.kind ≤ 24 <;> simp only [SQ, SQB, zm, AOp.opds, step, Opd.get, zk, bin, zc, IntKind.signed, zi, zj, zl, zb, unary, ze, zd, za, zo, zr, zh, zf, zg, zp, Cp.isFull, isNil, zq, simprocAttr, SQX, V.cells, hl.gr, zC, zn (hc _ _), h1, h2, Bool.false_and]
  · simp only [SQ, SQB, zm, AOp.opds, step, Opd.get, zk, bin, zc, IntKind.signed, zi, zj, zl, zb, unary, ze, zd, za, zo, zr, zh, zf, zg, zp, Cp.isFull, isNil, zq, simprocAttr, SQX, V.cells, hl.gr, zC, zn (hc _ _), h1, Bool.false_and]
theorem astatement_r {x : Nd} (hm : MayOk x) {base : Nat} {cs : List V} {h : Heap} (hv : NdV x cs) : WpF S0 base k_ast_statement [.agg cs] h fun v h' => v = .bool (okK zA 8 19 x) ∧ h' = h := by
  first | refine zu (A := f_ast_statement) rfl rfl rfl rfl ?_ | refine zB (A := f_ast_statement) rfl rfl rfl rfl ?_
  have hc := fun base h => hm base _ h hv
  obtain ⟨lv, rfl, hl⟩ := hv.open
  unfold okK
  simp only [f_ast_statement, oD, cD]
  by_cases h1 : 8 ≤ x.kind
  · by_cases h2 : x.kind ≤ 19 <;> simp only [SQ, SQB, zm, AOp.opds, step, Opd.get, zk, bin, zc, IntKind.signed, zi, zj, zl, zb, unary, ze, zd, za, zo, zr, zh, zf, zg, zp, Cp.isFull, isNil, zq, simprocAttr, SQX, V.cells, hl.gr, zC, zn (hc _ _), h1, h2, Bool.false_and]
  · simp only [SQ, SQB, zm, AOp.opds, step, Opd.get, zk, bin, zc, IntKind.signed, zi, zj, zl, zb, unary, ze, zd, za, zo, zr, zh, zf, zg, zp, Cp.isFull, isNil, zq, simprocAttr, SQX, V.cells, hl.gr, zC, zn (hc _ _), h1, Bool.false_and]
theorem aitem_r {x : Nd} (hm : MayOk x) {base : Nat} {cs : List V} {h : Heap} (hv : NdV x cs) : WpF S0 base k_ast_item [.agg cs] h fun v h' => v = .bool (okK zA 2 4 x) ∧ h' = h := by
  first | refine zu (A := f_ast_item) rfl rfl rfl rfl ?_ | refine zB (A := f_ast_item) rfl rfl rfl rfl ?_
  have hc := fun base h => hm base _ h hv
  obtain ⟨lv, rfl, hl⟩ := hv.open
  unfold okK
  simp only [f_ast_item, oD, cD]
  by_cases h1 : 2 ≤ x.kind
  · by_cases h2 : x.kind ≤ 4 <;> simp only [SQ, SQB, zm, AOp.opds, step, Opd.get, zk, bin, zc, IntKind.signed, zi, zj, zl, zb, unary, ze, zd, za, zo, zr, zh, zf, zg, zp, Cp.isFull, isNil, zq, simprocAttr, SQX, V.cells, hl.gr, zC, zn (hc _ _), h1, h2, Bool.false_and]
  · simp only [SQ, SQB, zm, AOp.opds, step, Opd.get, zk, bin, zc, IntKind.signed, zi, zj, zl, zb, unary, ze, zd, za, zo, zr, zh, zf, zg, zp, Cp.isFull, isNil, zq, simprocAttr, SQX, V.cells, hl.gr, zC, zn (hc _ _), h1, Bool.false_and]
theorem ablock_r {x : Nd} (hm : MayOk x) {base : Nat} {cs : List V} {h : Heap} (hv : NdV x cs) : WpF S0 base k_ast_block [.agg cs] h fun v h' => v = .bool (okK zA 7 7 x) ∧ h' = h := by
  first | refine zu (A := f_ast_block) rfl rfl rfl rfl ?_ | refine zB (A := f_ast_block) rfl rfl rfl rfl ?_
  have hc := fun base h => hm base _ h hv
  obtain ⟨lv, rfl, hl⟩ := hv.open
  have he : okK zA 7 7 x = (decide (x.kind = 7) && mayN zA x) := by unfold okK; congr 1; rw [decide_eq_decide]; omega
  rw [he]
  simp only [f_ast_block, oD, cD]
  cases h1 : decide (x.kind = 7) <;> simp only [SQ, SQB, zm, AOp.opds, step, Opd.get, zk, bin, zc, IntKind.signed, zi, zj, zl, zb, unary, ze, zd, za, zo, zr, zh, zf, zg, zp, Cp.isFull, isNil, zq, simprocAttr, SQX, V.cells, hl.gr, zC, zn (hc _ _), h1, Bool.false_and]
theorem avariable_r {x : Nd} (hm : MayOk x) {base : Nat} {cs : List V} {h : Heap} (hv : NdV x cs) : WpF S0 base k_ast_variable [.agg cs] h fun v h' => v = .bool (okK zA 5 5 x) ∧ h' = h := by
  first | refine zu (A := f_ast_variable) rfl rfl rfl rfl ?_ | refine zB (A := f_ast_variable) rfl rfl rfl rfl ?_
  have hc := fun base h => hm base _ h hv
  obtain ⟨lv, rfl, hl⟩ := hv.open
  have he : okK zA 5 5 x = (decide (x.kind = 5) && mayN zA x) := by unfold okK; congr 1; rw [decide_eq_decide]; omega
  rw [he]
  simp only [f_ast_variable, oD, cD]
  cases h1 : decide (x.kind = 5) <;> simp only [SQ, SQB, zm, AOp.opds, step, Opd.get, zk, bin, zc, IntKind.signed, zi, zj, zl, zb, unary, ze, zd, za, zo, zr, zh, zf, zg, zp, Cp.isFull, isNil, zq, simprocAttr, SQX, V.cells, hl.gr, zC, zn (hc _ _), h1, Bool.false_and]
theorem adeclared_r {x : Nd} (hm : MayOk x) {base : Nat} {cs : List V} {h : Heap} (hv : NdV x cs) : WpF S0 base k_ast_declared [.agg cs] h fun v h' => v = .bool (okK zA 5 6 x) ∧ h' = h := by
  first | refine zu (A := f_ast_declared) rfl rfl rfl rfl ?_ | refine zB (A := f_ast_declared) rfl rfl rfl rfl ?_
  have hc := fun base h => hm base _ h hv
  obtain ⟨lv, rfl, hl⟩ := hv.open
  have he : okK zA 5 6 x = ((decide (x.kind = 5) || decide (x.kind = 6)) && mayN zA x) := by unfold okK; congr 1; rw [← Bool.decide_or, decide_eq_decide]; omega
  rw [he]
  simp only [f_ast_declared, oD, cD]
  cases h1 : decide (x.kind = 5) <;> cases h2 : decide (x.kind = 6) <;> simp only [SQ, SQB, zm, AOp.opds, step, Opd.get, zk, bin, zc, IntKind.signed, zi, zj, zl, zb, unary, ze, zd, za, zo, zr, zh, zf, zg, zp, Cp.isFull, isNil, zq, simprocAttr, SQX, V.cells, hl.gr, zC, zn (hc _ _), h1, h2, Bool.false_and, Bool.or_self, Bool.or_true, Bool.true_or, Bool.or_false, Bool.false_or]
end
section
theorem none_r {base : Nat} (n : Int) (h : Heap) : WpF S0 base zzs [.sc (.int .i64 n)] h fun v h' => v = .bool (decide (n = 0)) ∧ h' = h := by
  first | refine zu (A := f_ast_none) rfl rfl rfl rfl ?_ | refine zB (A := f_ast_none) rfl rfl rfl rfl ?_
  simp only [f_ast_none, oD, cD]
  simp only [SQ, SQB, zm, AOp.opds, step, Opd.get, zk, bin, zc, IntKind.signed, zi, zj, zl, zb, unary, ze, zd, za, zo, zr, zh, zf, zg, zp, Cp.isFull, isNil, zq, simprocAttr]
theorem any1_r {base : Nat} (n : Int) (h : Heap) : WpF S0 base k_ast_any1 [.sc (.int .i64 n)] h fun v h' => v = .bool true ∧ h' = h := by
  first | refine zu (A := f_ast_any1) rfl rfl rfl rfl ?_ | refine zB (A := f_ast_any1) rfl rfl rfl rfl ?_
  simp only [f_ast_any1, oD, cD]
  simp only [SQ, SQB, zm, AOp.opds, step, Opd.get, zk, bin, zc, IntKind.signed, zi, zj, zl, zb, unary, ze, zd, za, zo, zr, zh, zf, zg, zp, Cp.isFull, isNil, zq, simprocAttr]
theorem natural_r {base : Nat} (n : Int) (h : Heap) : WpF S0 base k_ast_natural [.sc (.int .i64 n)] h fun v h' => v = .bool (decide (0 ≤ n)) ∧ h' = h := by
  first | refine zu (A := f_ast_natural) rfl rfl rfl rfl ?_ | refine zB (A := f_ast_natural) rfl rfl rfl rfl ?_
  simp only [f_ast_natural, oD, cD]
  simp only [SQ, SQB, zm, AOp.opds, step, Opd.get, zk, bin, zc, IntKind.signed, zi, zj, zl, zb, unary, ze, zd, za, zo, zr, zh, zf, zg, zp, Cp.isFull, isNil, zq, simprocAttr]
theorem of5_r {base : Nat} (n : Int) (h : Heap) : WpF S0 base k_ast_of_5 [.sc (.int .i64 n)] h fun v h' => v = .bool (decide (1 ≤ n ∧ n ≤ 7)) ∧ h' = h := by
  first | refine zu (A := f_ast_of_5) rfl rfl rfl rfl ?_ | refine zB (A := f_ast_of_5) rfl rfl rfl rfl ?_
  simp only [f_ast_of_5, oD, cD]
  by_cases h1 : 1 ≤ n <;> by_cases h2 : n ≤ 7 <;> simp only [SQ, SQB, zm, AOp.opds, step, Opd.get, zk, bin, zc, IntKind.signed, zi, zj, zl, zb, unary, ze, zd, za, zo, zr, zh, zf, zg, zp, Cp.isFull, isNil, zq, simprocAttr, h1, h2]
theorem indexI_r {base : Nat} (l : List Int) (n : Int) (ex : Cp) (h : Heap) (hl : l.length < 2 ^ 62) : WpF S0 base k_slices_Indexintint [.slc ex 1 (l.map fun (i : Int) => [V.sc (.int .i64 i)]), .sc (.int .i64 n)] h fun v h' => (∃ m : Int, v = .sc (.int .i64 m) ∧ decide (0 ≤ m) = l.contains n) ∧ h' = h := by
  first | refine zu (A := f_slices_Indexintint) rfl rfl rfl rfl ?_ | refine zB (A := f_slices_Indexintint) rfl rfl rfl rfl ?_
  simp only [f_slices_Indexintint, oD, cD]
  simp only [SQ, SQB, zm, AOp.opds, step, Opd.get, zk, bin, zc, IntKind.signed, zi, zj, zl, zb, unary, ze, zd, za, zo, zr, zh, zf, zg, zp, Cp.isFull, isNil, zq, simprocAttr]
  refine WpC_loopI (fun k en h' => ∃ i : Nat, k = l.length - i ∧ i ≤ l.length ∧ en 8 = V.int i ∧ en 7 = V.int l.length ∧ en 0 = .slc ex 1 (l.map fun (i : Int) => [V.sc (.int .i64 i)]) ∧ en 1 = .sc (.int .i64 n) ∧ (l.take i).contains n = false ∧ h' = h) l.length ⟨0, rfl, Nat.zero_le _, rfl, rfl, rfl, rfl, rfl, rfl⟩ ?_
  rintro k en h' ⟨i, rfl, hi, e8, e7, e0, e1, hno, rfl⟩
  by_cases h1 : i < l.length
  · have hg : (l.map fun (i : Int) => [V.sc (.int .i64 i)])[i]? = some [V.sc (.int .i64 l[i])] := by simp [List.getElem?_map, h1]
    have htk : l.take (i + 1) = l.take i ++ [l[i]] := by rw [List.take_add_one, List.getElem?_eq_getElem h1]; rfl
    by_cases h2 : n = l[i]
    · simp only [SQ, SQB, zm, AOp.opds, step, Opd.get, zk, bin, zc, IntKind.signed, zi, zj, zl, zb, unary, ze, zd, za, zo, zr, zh, zf, zg, zp, Cp.isFull, isNil, zq, simprocAttr, e8, e7, e0, e1, h1, hg, List.getElem?_cons_zero, ← h2]
      have : l.contains n = true := by rw [List.contains_iff_mem, h2]; exact List.getElem_mem h1
      exact ⟨i, rfl, by rw [this]; simp⟩
    · simp only [SQ, SQB, zm, AOp.opds, step, Opd.get, zk, bin, zc, IntKind.signed, zi, zj, zl, zb, unary, ze, zd, za, zo, zr, zh, zf, zg, zp, Cp.isFull, isNil, zq, simprocAttr, e8, e7, e0, e1, h1, hg, List.getElem?_cons_zero, h2]
      refine ⟨l.length - (i + 1), by omega, i + 1, rfl, by omega, by rw [wrap_i64 (by omega) (by omega)]; rfl, ?_⟩
      rw [htk, List.contains_eq_any_beq, List.any_append, ← List.contains_eq_any_beq, hno]
      simp [h2]
  · have : l.take i = l := List.take_of_length_le (by omega)
    rw [this] at hno
    simp only [SQ, SQB, zm, AOp.opds, step, Opd.get, zk, bin, zc, IntKind.signed, zi, zj, zl, zb, unary, ze, zd, za, zo, zr, zh, zf, zg, zp, Cp.isFull, isNil, zq, simprocAttr, e8, e7, e0, h1]
    exact ⟨-1, rfl, by rw [hno]; rfl⟩
theorem containsI_r {base : Nat} (l : List Int) (n : Int) (ex : Cp) (h : Heap) (hl : l.length < 2 ^ 62) : WpF S0 base k_slices_Containsintint [.slc ex 1 (l.map fun (i : Int) => [V.sc (.int .i64 i)]), .sc (.int .i64 n)] h fun v h' => v = .bool (l.contains n) ∧ h' = h := by
  first | refine zu (A := f_slices_Containsintint) rfl rfl rfl rfl ?_ | refine zB (A := f_slices_Containsintint) rfl rfl rfl rfl ?_
  obtain ⟨m, hm, hw⟩ := callD_ex (indexI_r (base := h.length) l n ex h hl)
  simp only [f_slices_Containsintint, oD, cD]
  simp only [SQ, SQB, zm, AOp.opds, step, Opd.get, zk, bin, zc, IntKind.signed, zi, zj, zl, zb, unary, ze, zd, za, zo, zr, zh, zf, zg, zp, Cp.isFull, isNil, zq, simprocAttr, zn hw, hm]
theorem one1_r {base : Nat} (l : List Int) (n : Int) (ex : Cp) (h : Heap) (hl : l.length < 2 ^ 62) : WpF S0 base k_ast_one_1 [.sc (.int .i64 n), .eptr [.slc ex 1 (l.map fun (i : Int) => [V.sc (.int .i64 i)])] 0] h fun v h' => v = .bool (l.contains n) ∧ h' = h := by
  first | refine zu (A := f_ast_one_1) rfl rfl rfl rfl ?_ | refine zB (A := f_ast_one_1) rfl rfl rfl rfl ?_
  simp only [f_ast_one_1, oD, cD]
  simp only [SQ, SQB, zm, AOp.opds, step, Opd.get, zk, bin, zc, IntKind.signed, zi, zj, zl, zb, unary, ze, zd, za, zo, zr, zh, zf, zg, zp, Cp.isFull, isNil, zq, simprocAttr, SQX, V.cells, zn (containsI_r l n ex _ hl)]
theorem exactly1_r {base : Nat} (n : Int) {lv : V} {l : List Nd} (hl : LV lv l) (h : Heap) (hm : ∀ y ∈ l, MayOk y) : WpF S0 base zt [lv, .eptr [.sc (.int .i64 n)] 0] h fun v h' => v = .bool (decide ((l.length : Int) = n) && allN zA 20 24 l) ∧ h' = h := by
  first | refine zu (A := f_ast_exactly_1) rfl rfl rfl rfl ?_ | refine zB (A := f_ast_exactly_1) rfl rfl rfl rfl ?_
  have ha := fun base h => all_r (base := base) (g := k_ast_expression) (okK zA 20 24) hl h fun y hy cs hv base h => aexpression_r (hm y hy) hv
  rw [allN_all]
  simp only [f_ast_exactly_1, oD, cD]
  by_cases h1 : (l.length : Int) = n
  · simp only [SQ, SQB, zm, AOp.opds, step, Opd.get, bin, zc, IntKind.signed, zi, zj, zl, zb, unary, ze, zd, za, zo, zr, zh, zf, zg, zp, Cp.isFull, isNil, zq, simprocAttr, SQX, V.cells, hl.len, h1, zn (ha _ _)]
  · simp only [SQ, SQB, zm, AOp.opds, step, Opd.get, bin, zc, IntKind.signed, zi, zj, zl, zb, unary, ze, zd, za, zo, zr, zh, zf, zg, zp, Cp.isFull, isNil, zq, simprocAttr, SQX, V.cells, hl.len, h1, Bool.false_and]
theorem of1_r {base : Nat} {lv : V} {l : List Nd} (hl : LV lv l) (h : Heap) (hm : ∀ y ∈ l, MayOk y) : WpF S0 base k_ast_of_1 [lv] h fun v h' => v = .bool (allN zA 2 4 l) ∧ h' = h := by
  first | refine zu (A := f_ast_of_1) rfl rfl rfl rfl ?_ | refine zB (A := f_ast_of_1) rfl rfl rfl rfl ?_
  have ha := fun base h => all_r (base := base) (g := k_ast_item) (okK zA 2 4) hl h fun y hy cs hv base h => aitem_r (hm y hy) hv
  rw [allN_all]
  simp only [f_ast_of_1, oD, cD]
  simp only [SQ, SQB, zm, AOp.opds, step, Opd.get, zk, bin, zc, IntKind.signed, zi, zj, zl, zb, unary, ze, zd, za, zo, zr, zh, zf, zg, zp, Cp.isFull, isNil, zq, simprocAttr, SQX, V.cells, zn (ha _ _)]
theorem of4_r {base : Nat} {lv : V} {l : List Nd} (hl : LV lv l) (h : Heap) (hm : ∀ y ∈ l, MayOk y) : WpF S0 base k_ast_of_4 [lv] h fun v h' => v = .bool (allN zA 8 19 l) ∧ h' = h := by
  first | refine zu (A := f_ast_of_4) rfl rfl rfl rfl ?_ | refine zB (A := f_ast_of_4) rfl rfl rfl rfl ?_
  have ha := fun base h => all_r (base := base) (g := k_ast_statement) (okK zA 8 19) hl h fun y hy cs hv base h => astatement_r (hm y hy) hv
  rw [allN_all]
  simp only [f_ast_of_4, oD, cD]
  simp only [SQ, SQB, zm, AOp.opds, step, Opd.get, zk, bin, zc, IntKind.signed, zi, zj, zl, zb, unary, ze, zd, za, zo, zr, zh, zf, zg, zp, Cp.isFull, isNil, zq, simprocAttr, SQX, V.cells, zn (ha _ _)]
theorem of6_r {base : Nat} {lv : V} {l : List Nd} (hl : LV lv l) (h : Heap) (hm : ∀ y ∈ l, MayOk y) : WpF S0 base k_ast_of_6 [lv] h fun v h' => v = .bool (allN zA 20 24 l) ∧ h' = h := by
  first | refine zu (A := f_ast_of_6) rfl rfl rfl rfl ?_ | refine zB (A := f_ast_of_6) rfl rfl rfl rfl ?_
  have ha := fun base h => all_r (base := base) (g := k_ast_expression) (okK zA 20 24) hl h fun y hy cs hv base h => aexpression_r (hm y hy) hv
  rw [allN_all]
  simp only [f_ast_of_6, oD, cD]
  simp only [SQ, SQB, zm, AOp.opds, step, Opd.get, zk, bin, zc, IntKind.signed, zi, zj, zl, zb, unary, ze, zd, za, zo, zr, zh, zf, zg, zp, Cp.isFull, isNil, zq, simprocAttr, SQX, V.cells, zn (ha _ _)]
end
section
theorem LV.pre {lv : V} {l : List Nd} (h : LV lv l) {n : Nat} (hn : n ≤ l.length) : ∃ lv', (∀ hp, zg hp 7 lv 0 (some n) none = some (lv', hp)) ∧ LV lv' (l.take n) := by
  rcases h with ⟨rfl, rfl⟩ | ⟨ex, rows, rfl, h, hlt⟩
  · have : n = 0 := by simpa using hn
    subst this
    exact ⟨V.nilS, fun hp => by simp [zg], .inl ⟨rfl, rfl⟩⟩
  · have hr := h.len
    refine ⟨.slc (zp ex n rows.length none) 7 (rows.take n), fun hp => ?_, .inr ⟨_, _, rfl, h.take n, by rw [List.length_take]; omega⟩⟩
    simp [zg, show n ≤ rows.length by omega]
theorem LV.suf {lv : V} {l : List Nd} (h : LV lv l) (hn : 1 ≤ l.length) : ∃ lv', (∀ hp, zg hp 7 lv 1 none none = some (lv', hp)) ∧ LV lv' (l.drop 1) := by
  rcases h with ⟨rfl, rfl⟩ | ⟨ex, rows, rfl, h, hlt⟩
  · simp at hn
  · have hr := h.len
    refine ⟨.slc (zp ex rows.length rows.length none) 7 (rows.drop 1), fun hp => ?_, .inr ⟨_, _, rfl, h.drop 1, by rw [List.length_drop]; omega⟩⟩
    simp [zg, show 1 ≤ rows.length by omega, List.take_of_length_le]
theorem body_r {base : Nat} {g : FuncId} (lo hi : Int) {lv : V} {l : List Nd} (hl : LV lv l) (h : Heap) (hm : ∀ y ∈ l, MayOk y) (hg : ∀ y ∈ l, ∀ cs, NdV y cs → ∀ base h, WpF S0 base g [.agg cs] h fun v h' => v = .bool (okK zA lo hi y) ∧ h' = h) :
    WpF S0 base k_ast_body [lv, .fn (.func g) [] []] h fun v h' => v = .bool (lastN zA lo hi l) ∧ h' = h := by
  first | refine zu (A := f_ast_body) rfl rfl rfl rfl ?_ | refine zB (A := f_ast_body) rfl rfl rfl rfl ?_
  have ll := hl.len
  have lt := hl.lt
  simp only [f_ast_body, oD, cD]
  by_cases h0 : l.length = 0
  · have w : IntKind.wrap .i64 ((l.length : Int) - 1) = -1 := by rw [h0]; rfl
    have hf : lastN zA lo hi l = false := by rw [List.eq_nil_of_length_eq_zero h0]; rfl
    simp only [SQ, SQB, zm, AOp.opds, step, Opd.get, bin, zc, IntKind.signed, zi, zj, zl, zb, unary, ze, zd, za, zo, zr, zh, zf, zg, zp, Cp.isFull, isNil, zq, simprocAttr, SQX, V.cells, ll, w, hf, Int.reduceNeg]
  · obtain ⟨ini, z, rfl⟩ := split_last (l := l) (by omega)
    have hlen : (ini ++ [z]).length = ini.length + 1 := by simp
    have w : IntKind.wrap .i64 (((ini ++ [z]).length : Int) - 1) = (ini.length : Int) := by rw [wrap_i64 (by omega) (by omega)]; omega
    obtain ⟨r, hr1, hr2⟩ := hl.get (i := ini.length) (by omega)
    have hz : (ini ++ [z])[ini.length]'(by omega) = z := by simp
    rw [hz] at hr2
    have hb := fun base h => ablock_r (hm z (by simp)) (base := base) (h := h) hr2
    obtain ⟨lv', hs, hl'⟩ := hl.pre (n := ini.length) (by omega)
    rw [List.take_left' rfl] at hl'
    have ha := fun base h => all_r (base := base) (g := g) (okK zA lo hi) hl' h fun y hy cs hv base h => hg y (by simp [hy]) cs hv base h
    rw [lastN_all]
    cases q : okK zA 7 7 z
    · rw [q] at hb
      simp only [SQ, SQB, zm, AOp.opds, step, Opd.get, bin, zc, IntKind.signed, zj, zb, unary, ze, zd, za, zo, zr, zh, zf, zp, Cp.isFull, isNil, zq, simprocAttr, SQX, V.cells, ll, w, hr1, agg_load hr2.len, zn (hb _ _), Bool.and_false]
    · rw [q] at hb
      simp only [SQ, SQB, zm, AOp.opds, step, Opd.get, bin, zc, IntKind.signed, zj, zb, unary, ze, zd, za, zo, zr, zh, zf, zp, Cp.isFull, isNil, zq, simprocAttr, SQX, V.cells, ll, w, hr1, agg_load hr2.len, zn (hb _ _), hs, zn (ha _ _)]
theorem of3_r {base : Nat} {lv : V} {l : List Nd} (hl : LV lv l) (h : Heap) (hm : ∀ y ∈ l, MayOk y) : WpF S0 base k_ast_of_3 [lv] h fun v h' => v = .bool (lastN zA 5 6 l) ∧ h' = h := by
  first | refine zu (A := f_ast_of_3) rfl rfl rfl rfl ?_ | refine zB (A := f_ast_of_3) rfl rfl rfl rfl ?_
  have ha := fun base h => body_r (base := base) (g := k_ast_declared) 5 6 hl h hm fun y hy cs hv base h => adeclared_r (hm y hy) hv
  simp only [f_ast_of_3, oD, cD]
  simp only [SQ, SQB, zm, AOp.opds, step, Opd.get, zk, bin, zc, IntKind.signed, zi, zj, zl, zb, unary, ze, zd, za, zo, zr, zh, zf, zg, zp, Cp.isFull, isNil, zq, simprocAttr, SQX, V.cells, zn (ha _ _)]
theorem of2_r {base : Nat} {x : Nd} {lv0 lv : V} {l : List Nd} (hl : LV lv l) (h : Heap) (hm : ∀ y ∈ l, MayOk y) : WpF S0 base k_ast_of_2 [lv, .eptr (ndC x lv0) 0] h fun v h' => v = .bool (lastN zA 5 5 l && decide (x.n < l.length)) ∧ h' = h := by
  first | refine zu (A := f_ast_of_2) rfl rfl rfl rfl ?_ | refine zB (A := f_ast_of_2) rfl rfl rfl rfl ?_
  have ha := fun base h => body_r (base := base) (g := k_ast_variable) 5 5 hl h hm fun y hy cs hv base h => avariable_r (hm y hy) hv
  simp only [f_ast_of_2, ndC]
  cases q : lastN zA 5 5 l
  · rw [q] at ha
    simp only [SQ, SQB, zm, AOp.opds, step, Opd.get, bin, zc, IntKind.signed, zi, zj, zl, zb, unary, ze, zd, za, zo, zr, zh, zf, zg, zp, Cp.isFull, isNil, zq, simprocAttr, SQX, V.cells, zn (ha _ _), hl.len, Bool.false_and]
  · rw [q] at ha
    simp only [SQ, SQB, zm, AOp.opds, step, Opd.get, bin, zc, IntKind.signed, zi, zj, zl, zb, unary, ze, zd, za, zo, zr, zh, zf, zg, zp, Cp.isFull, isNil, zq, simprocAttr, SQX, V.cells, zn (ha _ _), hl.len]
theorem headed1_r {base : Nat} (most : Int) (h0 : 1 ≤ most) (h1 : most ≤ 2) {lv : V} {l : List Nd} (hl : LV lv l) (h : Heap) (hm : ∀ y ∈ l, MayOk y) :
    WpF S0 base k_ast_headed_1 [lv, .eptr [.sc (.int .i64 1)] 0, .eptr [.sc (.int .i64 most)] 0] h fun v h' => v = .bool (decide (1 < (l.length : Int) ∧ (l.length : Int) ≤ most + 1) && headN zA l) ∧ h' = h := by
  first | refine zu (A := f_ast_headed_1) rfl rfl rfl rfl ?_ | refine zB (A := f_ast_headed_1) rfl rfl rfl rfl ?_
  have ll := hl.len
  have w : IntKind.wrap .i64 (most + 1) = most + 1 := wrap_i64 (by omega) (by omega)
  simp only [f_ast_headed_1, oD, cD]
  by_cases p1 : 1 < (l.length : Int)
  · by_cases p2 : (l.length : Int) ≤ most + 1
    · obtain ⟨a, t, rfl⟩ : ∃ a t, l = a :: t := by
        cases l with
        | nil => simp at p1
        | cons a t => exact ⟨a, t, rfl⟩
      obtain ⟨r, hr1, hr2⟩ := hl.get (i := 0) (by simp)
      have hE := fun base h => aexpression_r (hm a (by simp)) (base := base) (h := h) hr2
      obtain ⟨lv', hs, hl'⟩ := hl.suf (by simp)
      have ha := fun base h => all_r (base := base) (g := k_ast_block) (okK zA 7 7) hl' h fun y hy cs hv base h => ablock_r (hm y (by simp at hy; simp [hy])) hv
      have hh : headN zA (a :: t) = (okK zA 20 24 a && ((a :: t).drop 1).all (okK zA 7 7)) := by simp [headN, okK, allN_all]
      rw [hh]
      obtain ⟨lv2, rfl, _⟩ := hr2.open
      generalize hN : (a :: t).length = N at ll p1 p2 ⊢
      cases q : okK zA 20 24 a
      · rw [q] at hE
        simp only [SQ, SQB, zm, AOp.opds, step, Opd.get, bin, zc, IntKind.signed, zj, zl, zb, unary, ze, zd, za, zo, zr, zh, zf, zp, Cp.isFull, isNil, zq, simprocAttr, SQX, V.cells, ll, p1, p2, w, hr1, zC, Int.toNat_zero, zn (hE _ _), Bool.false_and]
      · rw [q] at hE
        simp only [SQ, SQB, zm, AOp.opds, step, Opd.get, bin, zc, IntKind.signed, zj, zl, zb, unary, ze, zd, za, zo, zr, zh, zf, zp, Cp.isFull, isNil, zq, simprocAttr, SQX, V.cells, ll, p1, p2, w, hr1, zC, Int.toNat_zero, Int.toNat_one, Int.reduceToNat, zn (hE _ _), hs, zn (ha _ _)]
    · simp only [SQ, SQB, zm, AOp.opds, step, Opd.get, bin, zc, IntKind.signed, zi, zj, zl, zb, unary, ze, zd, za, zo, zr, zh, zf, zg, zp, Cp.isFull, isNil, zq, simprocAttr, SQX, V.cells, ll, p1, p2, w, Bool.false_and]
  · simp only [SQ, SQB, zm, AOp.opds, step, Opd.get, bin, zc, IntKind.signed, zi, zj, zl, zb, unary, ze, zd, za, zo, zr, zh, zf, zg, zp, Cp.isFull, isNil, zq, simprocAttr, SQX, V.cells, ll, p1, w, Bool.false_and]
end
section
set_option maxHeartbeats 4000000 in
theorem strength_r {base : Nat} (s : ByteArray) (h : Heap) : WpF S0 base k_ast_Strength [.sc (.string s)] h fun v h' => v = V.int (strengthN s.data.toList) ∧ h' = h := by
  first | refine zu (A := f_ast_Strength) rfl rfl rfl rfl ?_ | refine zB (A := f_ast_Strength) rfl rfl rfl rfl ?_
  simp only [f_ast_Strength, oD, cD]
  by_cases q0 : s.data.toList = [61, 61]
  · have hs : strengthN s.data.toList = 1 := by rw [q0]; decide
    rw [hs]
    have p0 := decide_eq_true q0
    simp only [SQ, SQB, zm, AOp.opds, step, Opd.get, zk, bin, zc, IntKind.signed, zi, zj, zl, zb, unary, ze, zd, za, zo, zr, zh, zf, zg, zp, Cp.isFull, isNil, zq, simprocAttr, zE, str_eq, p0]
    first | done | rfl | trivial
  have p0 := decide_eq_false q0
  by_cases q1 : s.data.toList = [33, 61]
  · have hs : strengthN s.data.toList = 1 := by rw [q1]; decide
    rw [hs]
    have p1 := decide_eq_true q1
    simp only [SQ, SQB, zm, AOp.opds, step, Opd.get, zk, bin, zc, IntKind.signed, zi, zj, zl, zb, unary, ze, zd, za, zo, zr, zh, zf, zg, zp, Cp.isFull, isNil, zq, simprocAttr, zE, str_eq, p0, p1]
    first | done | rfl | trivial
  have p1 := decide_eq_false q1
  by_cases q2 : s.data.toList = [60]
  · have hs : strengthN s.data.toList = 1 := by rw [q2]; decide
    rw [hs]
    have p2 := decide_eq_true q2
    simp only [SQ, SQB, zm, AOp.opds, step, Opd.get, zk, bin, zc, IntKind.signed, zi, zj, zl, zb, unary, ze, zd, za, zo, zr, zh, zf, zg, zp, Cp.isFull, isNil, zq, simprocAttr, zE, str_eq, p0, p1, p2]
    first | done | rfl | trivial
  have p2 := decide_eq_false q2
  by_cases q3 : s.data.toList = [60, 61]
  · have hs : strengthN s.data.toList = 1 := by rw [q3]; decide
    rw [hs]
    have p3 := decide_eq_true q3
    simp only [SQ, SQB, zm, AOp.opds, step, Opd.get, zk, bin, zc, IntKind.signed, zi, zj, zl, zb, unary, ze, zd, za, zo, zr, zh, zf, zg, zp, Cp.isFull, isNil, zq, simprocAttr, zE, str_eq, p0, p1, p2, p3]
    first | done | rfl | trivial
  have p3 := decide_eq_false q3
  by_cases q4 : s.data.toList = [62]
  · have hs : strengthN s.data.toList = 1 := by rw [q4]; decide
    rw [hs]
    have p4 := decide_eq_true q4
    simp only [SQ, SQB, zm, AOp.opds, step, Opd.get, zk, bin, zc, IntKind.signed, zi, zj, zl, zb, unary, ze, zd, za, zo, zr, zh, zf, zg, zp, Cp.isFull, isNil, zq, simprocAttr, zE, str_eq, p0, p1, p2, p3, p4]
    first | done | rfl | trivial
  have p4 := decide_eq_false q4
  by_cases q5 : s.data.toList = [62, 61]
  · have hs : strengthN s.data.toList = 1 := by rw [q5]; decide
    rw [hs]
    have p5 := decide_eq_true q5
    simp only [SQ, SQB, zm, AOp.opds, step, Opd.get, zk, bin, zc, IntKind.signed, zi, zj, zl, zb, unary, ze, zd, za, zo, zr, zh, zf, zg, zp, Cp.isFull, isNil, zq, simprocAttr, zE, str_eq, p0, p1, p2, p3, p4, p5]
    first | done | rfl | trivial
  have p5 := decide_eq_false q5
  by_cases q6 : s.data.toList = [124]
  · have hs : strengthN s.data.toList = 2 := by rw [q6]; decide
    rw [hs]
    have p6 := decide_eq_true q6
    simp only [SQ, SQB, zm, AOp.opds, step, Opd.get, zk, bin, zc, IntKind.signed, zi, zj, zl, zb, unary, ze, zd, za, zo, zr, zh, zf, zg, zp, Cp.isFull, isNil, zq, simprocAttr, zE, str_eq, p0, p1, p2, p3, p4, p5, p6]
    first | done | rfl | trivial
  have p6 := decide_eq_false q6
  by_cases q7 : s.data.toList = [94]
  · have hs : strengthN s.data.toList = 3 := by rw [q7]; decide
    rw [hs]
    have p7 := decide_eq_true q7
    simp only [SQ, SQB, zm, AOp.opds, step, Opd.get, zk, bin, zc, IntKind.signed, zi, zj, zl, zb, unary, ze, zd, za, zo, zr, zh, zf, zg, zp, Cp.isFull, isNil, zq, simprocAttr, zE, str_eq, p0, p1, p2, p3, p4, p5, p6, p7]
    first | done | rfl | trivial
  have p7 := decide_eq_false q7
  by_cases q8 : s.data.toList = [38]
  · have hs : strengthN s.data.toList = 4 := by rw [q8]; decide
    rw [hs]
    have p8 := decide_eq_true q8
    simp only [SQ, SQB, zm, AOp.opds, step, Opd.get, zk, bin, zc, IntKind.signed, zi, zj, zl, zb, unary, ze, zd, za, zo, zr, zh, zf, zg, zp, Cp.isFull, isNil, zq, simprocAttr, zE, str_eq, p0, p1, p2, p3, p4, p5, p6, p7, p8]
    first | done | rfl | trivial
  have p8 := decide_eq_false q8
  by_cases q9 : s.data.toList = [60, 60]
  · have hs : strengthN s.data.toList = 5 := by rw [q9]; decide
    rw [hs]
    have p9 := decide_eq_true q9
    simp only [SQ, SQB, zm, AOp.opds, step, Opd.get, zk, bin, zc, IntKind.signed, zi, zj, zl, zb, unary, ze, zd, za, zo, zr, zh, zf, zg, zp, Cp.isFull, isNil, zq, simprocAttr, zE, str_eq, p0, p1, p2, p3, p4, p5, p6, p7, p8, p9]
    first | done | rfl | trivial
  have p9 := decide_eq_false q9
  by_cases q10 : s.data.toList = [62, 62]
  · have hs : strengthN s.data.toList = 5 := by rw [q10]; decide
    rw [hs]
    have p10 := decide_eq_true q10
    simp only [SQ, SQB, zm, AOp.opds, step, Opd.get, zk, bin, zc, IntKind.signed, zi, zj, zl, zb, unary, ze, zd, za, zo, zr, zh, zf, zg, zp, Cp.isFull, isNil, zq, simprocAttr, zE, str_eq, p0, p1, p2, p3, p4, p5, p6, p7, p8, p9, p10]
    first | done | rfl | trivial
  have p10 := decide_eq_false q10
  by_cases q11 : s.data.toList = [43]
  · have hs : strengthN s.data.toList = 6 := by rw [q11]; decide
    rw [hs]
    have p11 := decide_eq_true q11
    simp only [SQ, SQB, zm, AOp.opds, step, Opd.get, zk, bin, zc, IntKind.signed, zi, zj, zl, zb, unary, ze, zd, za, zo, zr, zh, zf, zg, zp, Cp.isFull, isNil, zq, simprocAttr, zE, str_eq, p0, p1, p2, p3, p4, p5, p6, p7, p8, p9, p10, p11]
    first | done | rfl | trivial
  have p11 := decide_eq_false q11
  by_cases q12 : s.data.toList = [45]
  · have hs : strengthN s.data.toList = 6 := by rw [q12]; decide
    rw [hs]
    have p12 := decide_eq_true q12
    simp only [SQ, SQB, zm, AOp.opds, step, Opd.get, zk, bin, zc, IntKind.signed, zi, zj, zl, zb, unary, ze, zd, za, zo, zr, zh, zf, zg, zp, Cp.isFull, isNil, zq, simprocAttr, zE, str_eq, p0, p1, p2, p3, p4, p5, p6, p7, p8, p9, p10, p11, p12]
    first | done | rfl | trivial
  have p12 := decide_eq_false q12
  by_cases q13 : s.data.toList = [42]
  · have hs : strengthN s.data.toList = 7 := by rw [q13]; decide
    rw [hs]
    have p13 := decide_eq_true q13
    simp only [SQ, SQB, zm, AOp.opds, step, Opd.get, zk, bin, zc, IntKind.signed, zi, zj, zl, zb, unary, ze, zd, za, zo, zr, zh, zf, zg, zp, Cp.isFull, isNil, zq, simprocAttr, zE, str_eq, p0, p1, p2, p3, p4, p5, p6, p7, p8, p9, p10, p11, p12, p13]
    first | done | rfl | trivial
  have p13 := decide_eq_false q13
  by_cases q14 : s.data.toList = [47]
  · have hs : strengthN s.data.toList = 7 := by rw [q14]; decide
    rw [hs]
    have p14 := decide_eq_true q14
    simp only [SQ, SQB, zm, AOp.opds, step, Opd.get, zk, bin, zc, IntKind.signed, zi, zj, zl, zb, unary, ze, zd, za, zo, zr, zh, zf, zg, zp, Cp.isFull, isNil, zq, simprocAttr, zE, str_eq, p0, p1, p2, p3, p4, p5, p6, p7, p8, p9, p10, p11, p12, p13, p14]
    first | done | rfl | trivial
  have p14 := decide_eq_false q14
  by_cases q15 : s.data.toList = [37]
  · have hs : strengthN s.data.toList = 7 := by rw [q15]; decide
    rw [hs]
    have p15 := decide_eq_true q15
    simp only [SQ, SQB, zm, AOp.opds, step, Opd.get, zk, bin, zc, IntKind.signed, zi, zj, zl, zb, unary, ze, zd, za, zo, zr, zh, zf, zg, zp, Cp.isFull, isNil, zq, simprocAttr, zE, str_eq, p0, p1, p2, p3, p4, p5, p6, p7, p8, p9, p10, p11, p12, p13, p14, p15]
    first | done | rfl | trivial
  have p15 := decide_eq_false q15
  have hs : strengthN s.data.toList = 0 := by
    unfold strengthN
    simp only [q0, q1, q2, q3, q4, q5, q6, q7, q8, q9, q10, q11, q12, q13, q14, q15, or_self, if_false]
  rw [hs]
  simp only [SQ, SQB, zm, AOp.opds, step, Opd.get, zk, bin, zc, IntKind.signed, zi, zj, zl, zb, unary, ze, zd, za, zo, zr, zh, zf, zg, zp, Cp.isFull, isNil, zq, simprocAttr, zE, str_eq, p0, p1, p2, p3, p4, p5, p6, p7, p8, p9, p10, p11, p12, p13, p14, p15]
  first | done | rfl | trivial
abbrev shC (s t sg si : Bool) (n o l : V) : List V := [.sc (.bool s), .sc (.bool t), .sc (.bool sg), .sc (.bool si), n, o, l]
def secondB (t sg si : Bool) (x : ByteArray) : Bool :=
  if t then zA x else if sg then decide (0 < strengthN x.data.toList) else if si then decide (x.data.toList = [45] ∨ x.data.toList = [33] ∨ x.data.toList = [126]) else decide (x.size = 0)
theorem second_r {base : Nat} (s t sg si : Bool) (n o l : V) (x : ByteArray) (h : Heap) (h1 : zm n = true) (h2 : zm o = true) (h3 : zm l = true) : WpF S0 base k_ast_second [.agg (shC s t sg si n o l), .sc (.string x)] h fun v h' => v = .bool (secondB t sg si x) ∧ h' = h := by
  first | refine zu (A := f_ast_second) rfl rfl rfl rfl ?_ | refine zB (A := f_ast_second) rfl rfl rfl rfl ?_
  have one1 : ∀ b : Bool, zm (.sc (.bool b)) = true := fun _ => rfl
  simp only [f_ast_second, shC]
  cases t
  · cases sg
    · cases si
      · have he : secondB false false false x = decide (x.size = 0) := rfl
        rw [he]
        simp only [SQ, SQB, AOp.opds, step, Opd.get, zk, bin, zc, IntKind.signed, zi, zj, zl, zb, unary, ze, zd, za, zo, zr, zh, zf, zg, zp, Cp.isFull, isNil, zq, simprocAttr, SQX, V.cells, one1, h1, h2, h3, last_get, last_take, zE, empty_list]
      · have he : secondB false false true x = (decide (x.data.toList = [45]) || (decide (x.data.toList = [33]) || decide (x.data.toList = [126]))) := by unfold secondB; simp [Bool.decide_or]
        rw [he]
        cases p1 : decide (x.data.toList = [45]) <;> cases p2 : decide (x.data.toList = [33]) <;> simp only [SQ, SQB, AOp.opds, step, Opd.get, zk, bin, zc, IntKind.signed, zi, zj, zl, zb, unary, ze, zd, za, zo, zr, zh, zf, zg, zp, Cp.isFull, isNil, zq, simprocAttr, SQX, V.cells, one1, h1, h2, h3, last_get, last_take, zE, str_eq, p1, p2, Bool.true_or, Bool.or_true, Bool.false_or]
    · have he : secondB false true si x = decide (0 < strengthN x.data.toList) := rfl
      rw [he]
      by_cases p : 0 < strengthN x.data.toList <;> simp only [SQ, SQB, AOp.opds, step, Opd.get, zk, bin, zc, IntKind.signed, zi, zj, zl, zb, unary, ze, zd, za, zo, zr, zh, zf, zg, zp, Cp.isFull, isNil, zq, simprocAttr, SQX, V.cells, one1, h1, h2, h3, last_get, last_take, zn (strength_r _ _), Int.natCast_pos, p]
  · have he : secondB true sg si x = zA x := rfl
    rw [he]
    simp only [SQ, SQB, AOp.opds, step, Opd.get, zk, bin, zc, IntKind.signed, zi, zj, zl, zb, unary, ze, zd, za, zo, zr, zh, zf, zg, zp, Cp.isFull, isNil, zq, simprocAttr, SQX, V.cells, one1, h1, h2, h3, last_get, last_take, zn (name_r _ _)]
end
section
section
variable {h : Heap} {b : Nat} {Q : V → Prop}
theorem Frz_fn0 {f : Fn} : Frz h b (.fn f [] []) Q ↔ Q (.fn f [] []) := ⟨fun ⟨_, _, e, q⟩ => freezeV_det (m := 1) e rfl ▸ q, fun q => ⟨1, _, rfl, q⟩⟩
theorem Frz_fn1 {f : Fn} {cs : List V} {o : Nat} : Frz h b (.fn f [] [.eptr cs o]) Q ↔ Q (.fn f [] [.eptr cs o]) := ⟨fun ⟨_, _, e, q⟩ => freezeV_det (m := 1) e rfl ▸ q, fun q => ⟨1, _, rfl, q⟩⟩
theorem Frz_fn2 {f : Fn} {cs ds : List V} {o p : Nat} : Frz h b (.fn f [] [.eptr cs o, .eptr ds p]) Q ↔ Q (.fn f [] [.eptr cs o, .eptr ds p]) := ⟨fun ⟨_, _, e, q⟩ => freezeV_det (m := 1) e rfl ▸ q, fun q => ⟨1, _, rfl, q⟩⟩
end
section
variable {h : Heap} {A B C : Obj} {t : TypeId} {cs : List V} {off : Nat}
theorem at3_0 : (h ++ [A, B, C])[h.length]? = some A := by simp
theorem at3_2 : (h ++ [A, B, C])[h.length + 2]? = some C := by simp
theorem put1 {off : Nat} {cs : List V} {v : V} (ho : off < cs.length) : putCells cs off [v] = cs.set off v := by
  unfold putCells
  rw [List.set_eq_take_append_cons_drop, if_pos ho]
  simp
theorem st3_2s {v : Value} (ho : off < cs.length) : storeV h.length (h ++ [A, B, .box t cs]) 1 (.ptr (h.length + 2) off) (.sc v) = some (h ++ [A, B, .box t (cs.set off (.sc v))]) := by
  refine (store_box (n := 1) at3_2 rfl rfl (by omega) (by simp [mayStore])).trans ?_
  rw [show (V.sc v).cells = [V.sc v] from rfl, put1 ho]
  simp [List.set_append_right]
theorem st3_2f {f : Fn} {a c : List V} (ho : off < cs.length) : storeV h.length (h ++ [A, B, .box t cs]) 1 (.ptr (h.length + 2) off) (.fn f a c) = some (h ++ [A, B, .box t (cs.set off (.fn f a c))]) := by
  refine (store_box (n := 1) at3_2 rfl rfl (by omega) (by simp [mayStore])).trans ?_
  rw [show (V.fn f a c).cells = [V.fn f a c] from rfl, put1 ho]
  simp [List.set_append_right]
theorem putAll {cs ds : List V} (h7 : ds.length = 7) (h8 : cs.length = 7) : putCells cs 0 ds = ds := by
  unfold putCells
  simp [h7, ← h8]
theorem st3_0a {ds : List V} (h7 : ds.length = 7) (h8 : cs.length = 7) (h1 : ds.all zm = true) : storeV h.length (h ++ [.box t cs, B, C]) 7 (.ptr h.length 0) (.agg ds) = some (h ++ [.box t ds, B, C]) := by
  refine (store_box (x := .agg ds) (n := 7) at3_0 h7 h1 (by omega) (by simp [mayStore])).trans ?_
  rw [show (V.agg ds).cells = ds from rfl, putAll h7 h8]
  simp
theorem stA {r : Heap} {A' : Obj} (hb : (h ++ [A, .box t cs])[h.length + 1]? = some (.box t cs)) {ds : List V} (h7 : ds.length = 7) (h8 : cs.length = 7) (h1 : ds.all zm = true) : storeV h.length (h ++ [A, .box t cs]) 7 (.ptr (h.length + 1) 0) (.agg ds) = some (h ++ [A, .box t ds]) := by
  refine (store_box (x := .agg ds) (n := 7) hb h7 h1 (by omega) (by simp [mayStore])).trans ?_
  rw [show (V.agg ds).cells = ds from rfl, putAll h7 h8]
  simp [List.set_append_right]
theorem st3_2a {ds : List V} (h7 : ds.length = 7) (h8 : cs.length = 7) (h1 : ds.all zm = true) : storeV h.length (h ++ [A, B, .box t cs]) 7 (.ptr (h.length + 2) 0) (.agg ds) = some (h ++ [A, B, .box t ds]) := by
  refine (store_box (x := .agg ds) (n := 7) at3_2 h7 h1 (by omega) (by simp [mayStore])).trans ?_
  rw [show (V.agg ds).cells = ds from rfl, putAll h7 h8]
  simp [List.set_append_right]
end
theorem exactly_r {base : Nat} (n : Int) (h : Heap) : WpF S0 base k_ast_exactly [.sc (.int .i64 n)] h fun v h' => v = .fn (.func zt) [] [.eptr [.sc (.int .i64 n)] 0] ∧ h' = h := by
  first | refine zu (A := f_ast_exactly) rfl rfl rfl rfl ?_ | refine zB (A := f_ast_exactly) rfl rfl rfl rfl ?_
  simp only [f_ast_exactly, oD, cD]
  simp only [SQ, SQB, zm, AOp.opds, step, Opd.get, zk, bin, zc, IntKind.signed, zi, zj, zl, zb, unary, ze, zd, za, zo, zr, zh, zf, zg, zp, Cp.isFull, isNil, zq, simprocAttr, SQX, V.cells]
theorem headed_r {base : Nat} (n m : Int) (h : Heap) : WpF S0 base k_ast_headed [.sc (.int .i64 n), .sc (.int .i64 m)] h fun v h' => v = .fn (.func k_ast_headed_1) [] [.eptr [.sc (.int .i64 n)] 0, .eptr [.sc (.int .i64 m)] 0] ∧ h' = h := by
  first | refine zu (A := f_ast_headed) rfl rfl rfl rfl ?_ | refine zB (A := f_ast_headed) rfl rfl rfl rfl ?_
  simp only [f_ast_headed, oD, cD]
  simp only [SQ, SQB, zm, AOp.opds, step, Opd.get, zk, bin, zc, IntKind.signed, zi, zj, zl, zb, unary, ze, zd, za, zo, zr, zh, zf, zg, zp, Cp.isFull, isNil, zq, simprocAttr, SQX, V.cells]
theorem one_r {base : Nat} (ex : Cp) (rows : List (List V)) (h : Heap) : WpF S0 base k_ast_one [.slc ex 1 rows] h fun v h' => v = .fn (.func k_ast_one_1) [] [.eptr [.slc ex 1 rows] 0] ∧ h' = h := by
  first | refine zu (A := f_ast_one) rfl rfl rfl rfl ?_ | refine zB (A := f_ast_one) rfl rfl rfl rfl ?_
  simp only [f_ast_one, oD, cD]
  simp only [SQ, SQB, zm, AOp.opds, step, Opd.get, zk, bin, zc, IntKind.signed, zi, zj, zl, zb, unary, ze, zd, za, zo, zr, zh, zf, zg, zp, Cp.isFull, isNil, zq, simprocAttr, SQX, V.cells, Frz_fn1, List.take_length]
abbrev Zs : List V := [.sc (.bool false), .sc (.bool false), .sc (.bool false), .sc (.bool false), .sc .nilFunc, .sc .nilFunc, .sc .nilFunc]
abbrev Pl : List V := shC false false false false (.fn (.func zzs) [] []) (.fn (.func zzs) [] []) (.fn (.func zt) [] [.eptr [.sc (.int .i64 0)] 0])
def zD (x : Nd) (lv : V) : List V :=
  if x.kind = 1 then shC false false false false (.fn (.func zzs) [] []) (.fn (.func zzs) [] []) (.fn (.func k_ast_of_1) [] []) else
  if x.kind = 2 then shC true false false false (.fn (.func k_ast_any1) [] []) (.fn (.func zzs) [] []) (.fn (.func zt) [] [.eptr [.sc (.int .i64 0)] 0]) else
  if x.kind = 3 then shC true false false false (.fn (.func k_ast_natural) [] []) (.fn (.func zzs) [] []) (.fn (.func k_ast_of_2) [] [.eptr (ndC x lv) 0]) else
  if x.kind = 4 then shC false false false false (.fn (.func zzs) [] []) (.fn (.func zzs) [] []) (.fn (.func k_ast_of_3) [] []) else
  if x.kind = 5 then shC true false false false (.fn (.func zzs) [] []) (.fn (.func zzs) [] []) (.fn (.func zt) [] [.eptr [.sc (.int .i64 0)] 0]) else
  if x.kind = 6 then shC true false false false (.fn (.func k_ast_natural) [] []) (.fn (.func zzs) [] []) (.fn (.func zt) [] [.eptr [.sc (.int .i64 0)] 0]) else
  if x.kind = 7 then shC false false false false (.fn (.func zzs) [] []) (.fn (.func zzs) [] []) (.fn (.func k_ast_of_4) [] []) else
  if x.kind = 8 then shC true false false false (.fn (.func zzs) [] []) (.fn (.func zzs) [] []) (.fn (.func zt) [] [.eptr [.sc (.int .i64 1)] 0]) else
  if x.kind = 9 then shC true false false false (.fn (.func zzs) [] []) (.fn (.func zzs) [] []) (.fn (.func zt) [] [.eptr [.sc (.int .i64 2)] 0]) else
  if x.kind = 10 then shC true true false false (.fn (.func zzs) [] []) (.fn (.func k_ast_one_1) [] [.eptr [.slc .lit 1 (([0, 1] : List Int).map fun (i : Int) => [V.sc (.int .i64 i)])] 0]) (.fn (.func zt) [] [.eptr [.sc (.int .i64 0)] 0]) else
  if x.kind = 11 then shC true false false false (.fn (.func zzs) [] []) (.fn (.func k_ast_one_1) [] [.eptr [.slc .lit 1 (([0, 2] : List Int).map fun (i : Int) => [V.sc (.int .i64 i)])] 0]) (.fn (.func zt) [] [.eptr [.sc (.int .i64 1)] 0]) else
  if x.kind = 12 then shC true true false false (.fn (.func k_ast_of_5) [] []) (.fn (.func k_ast_one_1) [] [.eptr [.slc .lit 1 (([0, 1, 2, 3] : List Int).map fun (i : Int) => [V.sc (.int .i64 i)])] 0]) (.fn (.func zt) [] [.eptr [.sc (.int .i64 1)] 0]) else
  if x.kind = 13 then shC true true false false (.fn (.func zzs) [] []) (.fn (.func k_ast_one_1) [] [.eptr [.slc .lit 1 (([0, 1, 2, 3] : List Int).map fun (i : Int) => [V.sc (.int .i64 i)])] 0]) (.fn (.func zt) [] [.eptr [.sc (.int .i64 2)] 0]) else
  if x.kind = 14 then shC false false false false (.fn (.func zzs) [] []) (.fn (.func k_ast_one_1) [] [.eptr [.slc .lit 1 (([1, 2, 3] : List Int).map fun (i : Int) => [V.sc (.int .i64 i)])] 0]) (.fn (.func zt) [] [.eptr [.sc (.int .i64 0)] 0]) else
  if x.kind = 15 then shC false false false false (.fn (.func zzs) [] []) (.fn (.func zzs) [] []) (.fn (.func k_ast_headed_1) [] [.eptr [.sc (.int .i64 1)] 0, .eptr [.sc (.int .i64 2)] 0]) else
  if x.kind = 16 then shC false false false false (.fn (.func zzs) [] []) (.fn (.func zzs) [] []) (.fn (.func k_ast_headed_1) [] [.eptr [.sc (.int .i64 1)] 0, .eptr [.sc (.int .i64 1)] 0]) else
  if x.kind = 17 then shC false false false false (.fn (.func zzs) [] []) (.fn (.func zzs) [] []) (.fn (.func zt) [] [.eptr [.sc (.int .i64 1)] 0]) else
  if x.kind = 18 then shC true true false false (.fn (.func zzs) [] []) (.fn (.func zzs) [] []) (.fn (.func k_ast_of_6) [] []) else
  if x.kind = 19 then shC false false false false (.fn (.func zzs) [] []) (.fn (.func zzs) [] []) (.fn (.func zt) [] [.eptr [.sc (.int .i64 0)] 0]) else
  if x.kind = 20 then shC false false false false (.fn (.func k_ast_natural) [] []) (.fn (.func zzs) [] []) (.fn (.func zt) [] [.eptr [.sc (.int .i64 0)] 0]) else
  if x.kind = 21 then shC true false false false (.fn (.func zzs) [] []) (.fn (.func zzs) [] []) (.fn (.func zt) [] [.eptr [.sc (.int .i64 0)] 0]) else
  if x.kind = 22 then shC true false false false (.fn (.func zzs) [] []) (.fn (.func zzs) [] []) (.fn (.func zt) [] [.eptr [.sc (.int .i64 1)] 0]) else
  if x.kind = 23 then shC false false true false (.fn (.func zzs) [] []) (.fn (.func zzs) [] []) (.fn (.func zt) [] [.eptr [.sc (.int .i64 2)] 0]) else
  if x.kind = 24 then shC false false false true (.fn (.func zzs) [] []) (.fn (.func zzs) [] []) (.fn (.func zt) [] [.eptr [.sc (.int .i64 1)] 0]) else
  Zs
def kindOk (k : Int) : Bool := decide (1 ≤ k ∧ k ≤ 24)
end
end Go.Am
