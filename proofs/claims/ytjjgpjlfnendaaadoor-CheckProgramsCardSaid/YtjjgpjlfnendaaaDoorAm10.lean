/- The abstract machine and what is proved in it, part 10. -/
import Derived.Test.YtjjgpjlfnendaaaDoorAm9
set_option linter.unusedVariables false
set_option linter.unusedSimpArgs false
namespace Go.Am
section
def hasB (s : ByteArray) (c : UInt8) : Bool := s.data.toList.contains c
theorem has_r {base : Nat} (s : ByteArray) (c : UInt8) (h : Heap) (hs : s.size < 2 ^ 62) : WpF S0 base k_spinnakerref23_has [.sc (.string s), .sc (.int .u8 c.toNat)] h fun v h' => v = .bool (hasB s c) ∧ h' = h := by
  first | refine zu (A := f_spinnakerref23_has) rfl rfl rfl rfl ?_ | refine zB (A := f_spinnakerref23_has) rfl rfl rfl rfl ?_
  simp only [f_spinnakerref23_has, oD, cD]
  have hsz := size_list s
  simp only [SQ, SQB, zm, AOp.opds, step, Opd.get, zk, bin, zc, IntKind.signed, zi, zj, zl, zb, unary, ze, zd, za, zo, zr, zh, zf, zg, zp, Cp.isFull, isNil, zq, simprocAttr]
  refine WpC_loopI (fun k en h' => ∃ i : Nat, k = s.size - i ∧ i ≤ s.size ∧ en 5 = V.int i ∧ en 0 = .sc (.string s) ∧ en 1 = .sc (.int .u8 c.toNat) ∧ (s.data.toList.take i).contains c = false ∧ h' = h) s.size ⟨0, rfl, Nat.zero_le _, rfl, rfl, rfl, rfl, rfl⟩ ?_
  rintro k en h' ⟨i, rfl, hi, e5, e0, e1, hno, rfl⟩
  by_cases h4 : i < s.size
  · have h4' : i < s.data.toList.length := by omega
    have hbi : s[i]? = some s.data.toList[i] := by rw [byte_at, List.getElem?_eq_getElem h4']
    have htk : s.data.toList.take (i + 1) = s.data.toList.take i ++ [s.data.toList[i]] := by rw [List.take_add_one, List.getElem?_eq_getElem h4']; rfl
    by_cases h5 : s.data.toList[i] = c
    · have h5' : (s.data.toList[i].toNat : Int) = c.toNat := by rw [h5]
      simp only [SQ, SQB, zm, AOp.opds, step, Opd.get, zk, bin, zc, IntKind.signed, zi, zj, zl, zb, unary, ze, zd, za, zo, zr, zh, zf, zg, zp, Cp.isFull, isNil, zq, simprocAttr, e5, e0, e1, h4, hbi, h5']
      have : hasB s c = true := by
        unfold hasB
        rw [List.contains_iff_mem, ← h5]
        exact List.getElem_mem h4'
      rw [this]
    · have h5' : ¬ (s.data.toList[i].toNat : Int) = c.toNat := by
        intro e
        exact h5 (UInt8.toNat_inj.1 (by omega))
      simp only [SQ, SQB, zm, AOp.opds, step, Opd.get, zk, bin, zc, IntKind.signed, zi, zj, zl, zb, unary, ze, zd, za, zo, zr, zh, zf, zg, zp, Cp.isFull, isNil, zq, simprocAttr, e5, e0, e1, h4, hbi, h5']
      refine ⟨s.size - (i + 1), by omega, i + 1, rfl, by omega, by rw [wrap_i64 (by omega) (by omega)]; rfl, ?_⟩
      rw [htk, List.contains_eq_any_beq, List.any_append, ← List.contains_eq_any_beq, hno]
      have h5'' : ¬ c = s.data[i] := fun e => h5 (by simpa using e.symm)
      simpa using h5''
  · simp only [SQ, SQB, zm, AOp.opds, step, Opd.get, zk, bin, zc, IntKind.signed, zi, zj, zl, zb, unary, ze, zd, za, zo, zr, zh, zf, zg, zp, Cp.isFull, isNil, zq, simprocAttr, e5, e0, h4]
    have : s.data.toList.take i = s.data.toList := List.take_of_length_le (by omega)
    rw [this] at hno
    unfold hasB
    rw [hno]
theorem blank_r {base : Nat} {x : Nd} {cs : List V} (hx : NdV x cs) (but : ByteArray) (bS bT bN bO bL : Bool) (h : Heap) (hs : but.size < 2 ^ 62) (hS : hasB but 83 = bS) (hT : hasB but 84 = bT) (hN : hasB but 78 = bN) (hO : hasB but 79 = bO) (hL : hasB but 76 = bL) :
    WpF S0 base k_spinnakerref23_blank [.agg cs, .sc (.string but)] h fun v h' => v = .bool (blankB zA bS bT bN bO bL x) ∧ h' = h := by
  first | refine zu (A := f_spinnakerref23_blank) rfl rfl rfl rfl ?_ | refine zB (A := f_spinnakerref23_blank) rfl rfl rfl rfl ?_
  obtain ⟨lv, rfl, hl⟩ := hx.open
  have c83 := fun base h => has_r (base := base) but 83 h hs
  have c84 := fun base h => has_r (base := base) but 84 h hs
  have c78 := fun base h => has_r (base := base) but 78 h hs
  have c79 := fun base h => has_r (base := base) but 79 h hs
  have c76 := fun base h => has_r (base := base) but 76 h hs
  rw [hS] at c83
  rw [hT] at c84
  rw [hN] at c78
  rw [hO] at c79
  rw [hL] at c76
  have u83 : ((83 : UInt8).toNat : Int) = 83 := rfl
  have u84 : ((84 : UInt8).toNat : Int) = 84 := rfl
  have u78 : ((78 : UInt8).toNat : Int) = 78 := rfl
  have u79 : ((79 : UInt8).toNat : Int) = 79 := rfl
  have u76 : ((76 : UInt8).toNat : Int) = 76 := rfl
  rw [u83] at c83
  rw [u84] at c84
  rw [u78] at c78
  rw [u79] at c79
  rw [u76] at c76
  simp only [f_spinnakerref23_blank, oD, cD]
  refine zw (fun en' h' => en' 1 = .sc (.string but) ∧ en' 2 = .eptr [.sc (.int .i64 x.kind), .sc (.string x.s), .sc (.string x.t), .sc (.int .i64 x.n), .sc (.int .i64 x.ord), .sc (.int .i64 x.line), lv] 0 ∧ h' = h) ?_ ?_
  · simp only [SQ, SQB, zm, AOp.opds, step, Opd.get, zk, bin, zc, IntKind.signed, zi, zj, zl, zb, unary, ze, zd, za, zo, zr, zh, zf, zg, zp, Cp.isFull, isNil, zq, simprocAttr, SQX, V.cells, hl.gr]
  rintro en1 h1 ⟨e1, e2, rfl⟩
  rw [WpC_seqD, WpC_seqD, WpC_region]
  have ne : ∀ b : ByteArray, (!(b.toList == (⟨#[]⟩ : ByteArray).toList)) = !decide (b.size = 0) := fun b => by rw [empty_list]
  refine WpO_cut 9 (fun en' h' => en' 1 = .sc (.string but) ∧ en' 2 = en1 2 ∧ en' 13 = .bool (!bS && !decide (x.s.size = 0)) ∧ h' = h1) ?_ ?_
  · dsimp only [List.take]
    cases bS <;> simp only [SQ, SQB, zm, AOp.opds, step, Opd.get, zk, bin, zc, IntKind.signed, zi, zj, zl, zb, unary, ze, zd, za, zo, zr, zh, zf, zg, zp, Cp.isFull, isNil, zq, simprocAttr, SQX, V.cells, e1, e2, zn (c83 _ _), zE, ne, Bool.false_and]
  rintro en2 h2 ⟨f1, f2, f13, rfl⟩
  rw [e2] at f2
  dsimp only [List.drop]
  generalize hb1 : (!bS && !decide (x.s.size = 0)) = b1 at f13
  refine WpO_cut 10 (fun en' h' => en' 1 = .sc (.string but) ∧ en' 2 = en2 2 ∧ en' 23 = .bool (b1 || (bS && !zA x.s)) ∧ h' = h2) ?_ ?_
  · dsimp only [List.take]
    cases b1
    · cases bS <;> simp only [SQ, SQB, zm, AOp.opds, step, Opd.get, zk, bin, zc, IntKind.signed, zi, zj, zl, zb, unary, ze, zd, za, zo, zr, zh, zf, zg, zp, Cp.isFull, isNil, zq, simprocAttr, SQX, V.cells, f1, f2, f13, zn (c83 _ _), zn (refName_r _ _), Bool.false_and, Bool.false_or]
    · simp only [SQ, SQB, zm, AOp.opds, step, Opd.get, zk, bin, zc, IntKind.signed, zi, zj, zl, zb, unary, ze, zd, za, zo, zr, zh, zf, zg, zp, Cp.isFull, isNil, zq, simprocAttr, SQX, V.cells, f1, f2, f13, Bool.true_or]
  rintro en3 h3 ⟨g1, g2, g23, rfl⟩
  rw [f2] at g2
  dsimp only [List.drop]
  generalize hb2 : (b1 || (bS && !zA x.s)) = b2 at g23
  refine WpO_cut 9 (fun en' h' => en' 1 = .sc (.string but) ∧ en' 2 = en3 2 ∧ en' 32 = .bool (b2 || (!bT && !decide (x.t.size = 0))) ∧ h' = h3) ?_ ?_
  · dsimp only [List.take]
    cases b2
    · cases bT <;> simp only [SQ, SQB, zm, AOp.opds, step, Opd.get, zk, bin, zc, IntKind.signed, zi, zj, zl, zb, unary, ze, zd, za, zo, zr, zh, zf, zg, zp, Cp.isFull, isNil, zq, simprocAttr, SQX, V.cells, g1, g2, g23, zn (c84 _ _), zE, ne, Bool.false_and, Bool.false_or]
    · simp only [SQ, SQB, zm, AOp.opds, step, Opd.get, zk, bin, zc, IntKind.signed, zi, zj, zl, zb, unary, ze, zd, za, zo, zr, zh, zf, zg, zp, Cp.isFull, isNil, zq, simprocAttr, SQX, V.cells, g1, g2, g23, Bool.true_or]
  rintro en4 h4 ⟨k1, k2, k32, rfl⟩
  rw [g2] at k2
  dsimp only [List.drop]
  generalize hb3 : (b2 || (!bT && !decide (x.t.size = 0))) = b3 at k32
  have key : ∀ p q n z y : Bool, ((if p = true then n else z) && (q || y)) = !(((!p && !z) || (p && !n)) || (!q && !y)) := by decide
  have hpre := key bS bT (zA x.s) (decide (x.s.size = 0)) (decide (x.t.size = 0))
  rw [hb1, hb2, hb3] at hpre
  cases b3
  · simp only [WpO_nil, thenC_normal, thenC_ret, thenC_exit, WpC_seqD, WpC_condD, WpC_skip, WpC_ret, WpC_exit, WpC_block, blockQ_normal, blockQ_ret, blockQ_exit, WpC_region, Opd.get, condQ_true, condQ_false, reduceIte, k32]
    refine WpO_cut 8 (fun en' h' => en' 1 = .sc (.string but) ∧ en' 2 = en4 2 ∧ en' 40 = .bool (bN || decide (x.n = 0)) ∧ h' = h4) ?_ ?_
    · dsimp only [List.take]
      cases bN <;> simp only [SQ, SQB, zm, AOp.opds, step, Opd.get, zk, bin, zc, IntKind.signed, zi, zj, zl, zb, unary, ze, zd, za, zo, zr, zh, zf, zg, zp, Cp.isFull, isNil, zq, simprocAttr, SQX, V.cells, k1, k2, zn (c78 _ _), Bool.false_or, Bool.true_or]
    rintro en5 h5 ⟨l1, l2, l40, rfl⟩
    rw [k2] at l2
    dsimp only [List.drop]
    generalize hb4 : (bN || decide (x.n = 0)) = b4 at l40
    refine WpO_cut 9 (fun en' h' => en' 1 = .sc (.string but) ∧ en' 2 = en5 2 ∧ en' 49 = .bool (b4 && (bO || decide (x.ord = 0))) ∧ h' = h5) ?_ ?_
    · dsimp only [List.take]
      cases b4
      · simp only [SQ, SQB, zm, AOp.opds, step, Opd.get, zk, bin, zc, IntKind.signed, zi, zj, zl, zb, unary, ze, zd, za, zo, zr, zh, zf, zg, zp, Cp.isFull, isNil, zq, simprocAttr, SQX, V.cells, l1, l2, l40, Bool.false_and]
      · cases bO <;> simp only [SQ, SQB, zm, AOp.opds, step, Opd.get, zk, bin, zc, IntKind.signed, zi, zj, zl, zb, unary, ze, zd, za, zo, zr, zh, zf, zg, zp, Cp.isFull, isNil, zq, simprocAttr, SQX, V.cells, l1, l2, l40, zn (c79 _ _), Bool.false_or, Bool.true_or]
    rintro en6 h6 ⟨m1, m2, m49, rfl⟩
    rw [l2] at m2
    dsimp only [List.drop]
    generalize hb5 : (b4 && (bO || decide (x.ord = 0))) = b5 at m49
    refine WpO_cut 10 (fun en' h' => en' 2 = en6 2 ∧ en' 59 = .bool (b5 && (bL || decide (x.l.length = 0))) ∧ h' = h6) ?_ ?_
    · dsimp only [List.take]
      cases b5
      · simp only [SQ, SQB, zm, AOp.opds, step, Opd.get, zk, bin, zc, IntKind.signed, zi, zj, zl, zb, unary, ze, zd, za, zo, zr, zh, zf, zg, zp, Cp.isFull, isNil, zq, simprocAttr, SQX, V.cells, m1, m2, m49, Bool.false_and]
      · cases bL
        · simp only [SQ, SQB, zm, AOp.opds, step, Opd.get, bin, zc, IntKind.signed, zi, zj, zl, zb, unary, ze, zd, za, zo, zr, zh, zf, zg, zp, Cp.isFull, isNil, zq, simprocAttr, SQX, V.cells, m1, m2, m49, zn (c76 _ _), Bool.false_or, hl.len]
          simp
        · simp only [SQ, SQB, zm, AOp.opds, step, Opd.get, zk, bin, zc, IntKind.signed, zi, zj, zl, zb, unary, ze, zd, za, zo, zr, zh, zf, zg, zp, Cp.isFull, isNil, zq, simprocAttr, SQX, V.cells, m1, m2, m49, zn (c76 _ _), Bool.true_or]
    rintro en7 h7 ⟨n2, n59, rfl⟩
    rw [m2] at n2
    dsimp only [List.drop]
    generalize hb6 : (b5 && (bL || decide (x.l.length = 0))) = b6 at n59
    have hfin : blankB zA bS bT bN bO bL x = (b6 && decide (0 ≤ x.line)) := by
      unfold blankB
      rw [← hb6, ← hb5, ← hb4]
      rw [hpre, Bool.not_false, Bool.true_and]
    rw [hfin]
    cases b6 <;> simp only [SQ, SQB, zm, AOp.opds, step, Opd.get, zk, bin, zc, IntKind.signed, zi, zj, zl, zb, unary, ze, zd, za, zo, zr, zh, zf, zg, zp, Cp.isFull, isNil, zq, simprocAttr, SQX, V.cells, n2, n59, Bool.false_and]
  · have hfin : blankB zA bS bT bN bO bL x = false := by
      unfold blankB
      rw [hpre]
      simp
    rw [hfin]
    simp only [SQ, SQB, zm, AOp.opds, step, Opd.get, zk, bin, zc, IntKind.signed, zi, zj, zl, zb, unary, ze, zd, za, zo, zr, zh, zf, zg, zp, Cp.isFull, isNil, zq, simprocAttr, SQX, V.cells, k32]
end
section
theorem mayN_1 {nm : ByteArray → Bool} {x : Nd} (hk : x.kind = 1) : mayN nm x = (blankB nm false false false false true x && allN nm 2 4 x.l) := by
  cases x with
  | mk k s t n o ln l =>
    simp only [Nd.kind] at hk
    subst hk
    simp [mayN, fieldsB, blankB, ordOk, Nd.kind, Nd.s, Nd.t, Nd.n, Nd.ord, Nd.line, Nd.l]
    try (simp only [Bool.and_assoc, Bool.and_comm, Bool.and_left_comm])
    try (rw [Bool.eq_iff_iff]; simp only [Bool.and_eq_true, decide_eq_true_eq])
theorem mayN_2 {nm : ByteArray → Bool} {x : Nd} (hk : x.kind = 2) : mayN nm x = (blankB nm true false true false false x) := by
  cases x with
  | mk k s t n o ln l =>
    simp only [Nd.kind] at hk
    subst hk
    simp [mayN, fieldsB, blankB, ordOk, Nd.kind, Nd.s, Nd.t, Nd.n, Nd.ord, Nd.line, Nd.l]
    try (simp only [Bool.and_assoc, Bool.and_comm, Bool.and_left_comm])
    try (rw [Bool.eq_iff_iff]; simp only [Bool.and_eq_true, decide_eq_true_eq])
theorem mayN_3 {nm : ByteArray → Bool} {x : Nd} (hk : x.kind = 3) : mayN nm x = (blankB nm true false true false true x && decide (0 ≤ x.n) && decide (x.n < x.l.length) && lastN nm 5 5 x.l) := by
  cases x with
  | mk k s t n o ln l =>
    simp only [Nd.kind] at hk
    subst hk
    simp [mayN, fieldsB, blankB, ordOk, Nd.kind, Nd.s, Nd.t, Nd.n, Nd.ord, Nd.line, Nd.l]
    try (simp only [Bool.and_assoc, Bool.and_comm, Bool.and_left_comm])
    try (rw [Bool.eq_iff_iff]; simp only [Bool.and_eq_true, decide_eq_true_eq])
theorem mayN_4 {nm : ByteArray → Bool} {x : Nd} (hk : x.kind = 4) : mayN nm x = (blankB nm false false false false true x && lastN nm 5 6 x.l) := by
  cases x with
  | mk k s t n o ln l =>
    simp only [Nd.kind] at hk
    subst hk
    simp [mayN, fieldsB, blankB, ordOk, Nd.kind, Nd.s, Nd.t, Nd.n, Nd.ord, Nd.line, Nd.l]
    try (simp only [Bool.and_assoc, Bool.and_comm, Bool.and_left_comm])
    try (rw [Bool.eq_iff_iff]; simp only [Bool.and_eq_true, decide_eq_true_eq])
theorem mayN_5 {nm : ByteArray → Bool} {x : Nd} (hk : x.kind = 5) : mayN nm x = (blankB nm true false false false false x) := by
  cases x with
  | mk k s t n o ln l =>
    simp only [Nd.kind] at hk
    subst hk
    simp [mayN, fieldsB, blankB, ordOk, Nd.kind, Nd.s, Nd.t, Nd.n, Nd.ord, Nd.line, Nd.l]
    try (simp only [Bool.and_assoc, Bool.and_comm, Bool.and_left_comm])
    try (rw [Bool.eq_iff_iff]; simp only [Bool.and_eq_true, decide_eq_true_eq])
theorem mayN_6 {nm : ByteArray → Bool} {x : Nd} (hk : x.kind = 6) : mayN nm x = (blankB nm true false true false false x && decide (0 ≤ x.n)) := by
  cases x with
  | mk k s t n o ln l =>
    simp only [Nd.kind] at hk
    subst hk
    simp [mayN, fieldsB, blankB, ordOk, Nd.kind, Nd.s, Nd.t, Nd.n, Nd.ord, Nd.line, Nd.l]
    try (simp only [Bool.and_assoc, Bool.and_comm, Bool.and_left_comm])
    try (rw [Bool.eq_iff_iff]; simp only [Bool.and_eq_true, decide_eq_true_eq])
theorem mayN_7 {nm : ByteArray → Bool} {x : Nd} (hk : x.kind = 7) : mayN nm x = (blankB nm false false false false true x && allN nm 8 19 x.l) := by
  cases x with
  | mk k s t n o ln l =>
    simp only [Nd.kind] at hk
    subst hk
    simp [mayN, fieldsB, blankB, ordOk, Nd.kind, Nd.s, Nd.t, Nd.n, Nd.ord, Nd.line, Nd.l]
    try (simp only [Bool.and_assoc, Bool.and_comm, Bool.and_left_comm])
    try (rw [Bool.eq_iff_iff]; simp only [Bool.and_eq_true, decide_eq_true_eq])
theorem mayN_8 {nm : ByteArray → Bool} {x : Nd} (hk : x.kind = 8) : mayN nm x = (blankB nm true false false false true x && (decide (x.l.length = 1) && allN nm 20 24 x.l)) := by
  cases x with
  | mk k s t n o ln l =>
    simp only [Nd.kind] at hk
    subst hk
    simp [mayN, fieldsB, blankB, ordOk, Nd.kind, Nd.s, Nd.t, Nd.n, Nd.ord, Nd.line, Nd.l]
    try (simp only [Bool.and_assoc, Bool.and_comm, Bool.and_left_comm])
    try (rw [Bool.eq_iff_iff]; simp only [Bool.and_eq_true, decide_eq_true_eq])
theorem mayN_9 {nm : ByteArray → Bool} {x : Nd} (hk : x.kind = 9) : mayN nm x = (blankB nm true false false false true x && (decide (x.l.length = 2) && allN nm 20 24 x.l)) := by
  cases x with
  | mk k s t n o ln l =>
    simp only [Nd.kind] at hk
    subst hk
    simp [mayN, fieldsB, blankB, ordOk, Nd.kind, Nd.s, Nd.t, Nd.n, Nd.ord, Nd.line, Nd.l]
    try (simp only [Bool.and_assoc, Bool.and_comm, Bool.and_left_comm])
    try (rw [Bool.eq_iff_iff]; simp only [Bool.and_eq_true, decide_eq_true_eq])
theorem mayN_10 {nm : ByteArray → Bool} {x : Nd} (hk : x.kind = 10) : mayN nm x = (blankB nm true true false true false x && nm x.t && decide (x.ord = 0 ∨ x.ord = 1)) := by
  cases x with
  | mk k s t n o ln l =>
    simp only [Nd.kind] at hk
    subst hk
    simp [mayN, fieldsB, blankB, ordOk, Nd.kind, Nd.s, Nd.t, Nd.n, Nd.ord, Nd.line, Nd.l]
    try (simp only [Bool.and_assoc, Bool.and_comm, Bool.and_left_comm])
    try (rw [Bool.eq_iff_iff]; simp only [Bool.and_eq_true, decide_eq_true_eq])
theorem mayN_11 {nm : ByteArray → Bool} {x : Nd} (hk : x.kind = 11) : mayN nm x = (blankB nm true false false true true x && (decide (x.l.length = 1) && allN nm 20 24 x.l) && decide (x.ord = 0 ∨ x.ord = 2)) := by
  cases x with
  | mk k s t n o ln l =>
    simp only [Nd.kind] at hk
    subst hk
    simp [mayN, fieldsB, blankB, ordOk, Nd.kind, Nd.s, Nd.t, Nd.n, Nd.ord, Nd.line, Nd.l]
    try (simp only [Bool.and_assoc, Bool.and_comm, Bool.and_left_comm])
    try (rw [Bool.eq_iff_iff]; simp only [Bool.and_eq_true, decide_eq_true_eq])
theorem mayN_12 {nm : ByteArray → Bool} {x : Nd} (hk : x.kind = 12) : mayN nm x = (blankB nm true true true true true x && nm x.t && decide (1 ≤ x.n ∧ x.n ≤ 7) && (decide (x.l.length = 1) && allN nm 20 24 x.l) && decide (0 ≤ x.ord ∧ x.ord ≤ 3)) := by
  cases x with
  | mk k s t n o ln l =>
    simp only [Nd.kind] at hk
    subst hk
    simp [mayN, fieldsB, blankB, ordOk, Nd.kind, Nd.s, Nd.t, Nd.n, Nd.ord, Nd.line, Nd.l]
    try (simp only [Bool.and_assoc, Bool.and_comm, Bool.and_left_comm])
    try (rw [Bool.eq_iff_iff]; simp only [Bool.and_eq_true, decide_eq_true_eq])
theorem mayN_13 {nm : ByteArray → Bool} {x : Nd} (hk : x.kind = 13) : mayN nm x = (blankB nm true true false true true x && nm x.t && (decide (x.l.length = 2) && allN nm 20 24 x.l) && decide (0 ≤ x.ord ∧ x.ord ≤ 3)) := by
  cases x with
  | mk k s t n o ln l =>
    simp only [Nd.kind] at hk
    subst hk
    simp [mayN, fieldsB, blankB, ordOk, Nd.kind, Nd.s, Nd.t, Nd.n, Nd.ord, Nd.line, Nd.l]
    try (simp only [Bool.and_assoc, Bool.and_comm, Bool.and_left_comm])
    try (rw [Bool.eq_iff_iff]; simp only [Bool.and_eq_true, decide_eq_true_eq])
theorem mayN_14 {nm : ByteArray → Bool} {x : Nd} (hk : x.kind = 14) : mayN nm x = (blankB nm false false false true false x && decide (1 ≤ x.ord ∧ x.ord ≤ 3)) := by
  cases x with
  | mk k s t n o ln l =>
    simp only [Nd.kind] at hk
    subst hk
    simp [mayN, fieldsB, blankB, ordOk, Nd.kind, Nd.s, Nd.t, Nd.n, Nd.ord, Nd.line, Nd.l]
    try (simp only [Bool.and_assoc, Bool.and_comm, Bool.and_left_comm])
    try (rw [Bool.eq_iff_iff]; simp only [Bool.and_eq_true, decide_eq_true_eq])
theorem mayN_15 {nm : ByteArray → Bool} {x : Nd} (hk : x.kind = 15) : mayN nm x = (blankB nm false false false false true x && decide (x.l.length = 2 ∨ x.l.length = 3) && headN nm x.l) := by
  cases x with
  | mk k s t n o ln l =>
    simp only [Nd.kind] at hk
    subst hk
    simp [mayN, fieldsB, blankB, ordOk, Nd.kind, Nd.s, Nd.t, Nd.n, Nd.ord, Nd.line, Nd.l]
    try (simp only [Bool.and_assoc, Bool.and_comm, Bool.and_left_comm])
    try (rw [Bool.eq_iff_iff]; simp only [Bool.and_eq_true, decide_eq_true_eq])
theorem mayN_16 {nm : ByteArray → Bool} {x : Nd} (hk : x.kind = 16) : mayN nm x = (blankB nm false false false false true x && decide (x.l.length = 2) && headN nm x.l) := by
  cases x with
  | mk k s t n o ln l =>
    simp only [Nd.kind] at hk
    subst hk
    simp [mayN, fieldsB, blankB, ordOk, Nd.kind, Nd.s, Nd.t, Nd.n, Nd.ord, Nd.line, Nd.l]
    try (simp only [Bool.and_assoc, Bool.and_comm, Bool.and_left_comm])
    try (rw [Bool.eq_iff_iff]; simp only [Bool.and_eq_true, decide_eq_true_eq])
theorem mayN_17 {nm : ByteArray → Bool} {x : Nd} (hk : x.kind = 17) : mayN nm x = (blankB nm false false false false true x && (decide (x.l.length = 1) && allN nm 20 24 x.l)) := by
  cases x with
  | mk k s t n o ln l =>
    simp only [Nd.kind] at hk
    subst hk
    simp [mayN, fieldsB, blankB, ordOk, Nd.kind, Nd.s, Nd.t, Nd.n, Nd.ord, Nd.line, Nd.l]
    try (simp only [Bool.and_assoc, Bool.and_comm, Bool.and_left_comm])
    try (rw [Bool.eq_iff_iff]; simp only [Bool.and_eq_true, decide_eq_true_eq])
theorem mayN_18 {nm : ByteArray → Bool} {x : Nd} (hk : x.kind = 18) : mayN nm x = (blankB nm true true false false true x && nm x.t && allN nm 20 24 x.l) := by
  cases x with
  | mk k s t n o ln l =>
    simp only [Nd.kind] at hk
    subst hk
    simp [mayN, fieldsB, blankB, ordOk, Nd.kind, Nd.s, Nd.t, Nd.n, Nd.ord, Nd.line, Nd.l]
    try (simp only [Bool.and_assoc, Bool.and_comm, Bool.and_left_comm])
    try (rw [Bool.eq_iff_iff]; simp only [Bool.and_eq_true, decide_eq_true_eq])
theorem mayN_19 {nm : ByteArray → Bool} {x : Nd} (hk : x.kind = 19) : mayN nm x = (blankB nm false false false false false x) := by
  cases x with
  | mk k s t n o ln l =>
    simp only [Nd.kind] at hk
    subst hk
    simp [mayN, fieldsB, blankB, ordOk, Nd.kind, Nd.s, Nd.t, Nd.n, Nd.ord, Nd.line, Nd.l]
    try (simp only [Bool.and_assoc, Bool.and_comm, Bool.and_left_comm])
    try (rw [Bool.eq_iff_iff]; simp only [Bool.and_eq_true, decide_eq_true_eq])
theorem mayN_20 {nm : ByteArray → Bool} {x : Nd} (hk : x.kind = 20) : mayN nm x = (blankB nm false false true false false x && decide (0 ≤ x.n)) := by
  cases x with
  | mk k s t n o ln l =>
    simp only [Nd.kind] at hk
    subst hk
    simp [mayN, fieldsB, blankB, ordOk, Nd.kind, Nd.s, Nd.t, Nd.n, Nd.ord, Nd.line, Nd.l]
    try (simp only [Bool.and_assoc, Bool.and_comm, Bool.and_left_comm])
    try (rw [Bool.eq_iff_iff]; simp only [Bool.and_eq_true, decide_eq_true_eq])
theorem mayN_21 {nm : ByteArray → Bool} {x : Nd} (hk : x.kind = 21) : mayN nm x = (blankB nm true false false false false x) := by
  cases x with
  | mk k s t n o ln l =>
    simp only [Nd.kind] at hk
    subst hk
    simp [mayN, fieldsB, blankB, ordOk, Nd.kind, Nd.s, Nd.t, Nd.n, Nd.ord, Nd.line, Nd.l]
    try (simp only [Bool.and_assoc, Bool.and_comm, Bool.and_left_comm])
    try (rw [Bool.eq_iff_iff]; simp only [Bool.and_eq_true, decide_eq_true_eq])
theorem mayN_22 {nm : ByteArray → Bool} {x : Nd} (hk : x.kind = 22) : mayN nm x = (blankB nm true false false false true x && (decide (x.l.length = 1) && allN nm 20 24 x.l)) := by
  cases x with
  | mk k s t n o ln l =>
    simp only [Nd.kind] at hk
    subst hk
    simp [mayN, fieldsB, blankB, ordOk, Nd.kind, Nd.s, Nd.t, Nd.n, Nd.ord, Nd.line, Nd.l]
    try (simp only [Bool.and_assoc, Bool.and_comm, Bool.and_left_comm])
    try (rw [Bool.eq_iff_iff]; simp only [Bool.and_eq_true, decide_eq_true_eq])
theorem mayN_23 {nm : ByteArray → Bool} {x : Nd} (hk : x.kind = 23) : mayN nm x = (blankB nm false true false false true x && decide (0 < strengthN x.t.data.toList) && (decide (x.l.length = 2) && allN nm 20 24 x.l)) := by
  cases x with
  | mk k s t n o ln l =>
    simp only [Nd.kind] at hk
    subst hk
    simp [mayN, fieldsB, blankB, ordOk, Nd.kind, Nd.s, Nd.t, Nd.n, Nd.ord, Nd.line, Nd.l]
    try (simp only [Bool.and_assoc, Bool.and_comm, Bool.and_left_comm])
    try (rw [Bool.eq_iff_iff]; simp only [Bool.and_eq_true, decide_eq_true_eq])
theorem mayN_24 {nm : ByteArray → Bool} {x : Nd} (hk : x.kind = 24) : mayN nm x = (blankB nm false true false false true x && decide (x.t.data.toList = [45] ∨ x.t.data.toList = [33] ∨ x.t.data.toList = [126]) && (decide (x.l.length = 1) && allN nm 20 24 x.l)) := by
  cases x with
  | mk k s t n o ln l =>
    simp only [Nd.kind] at hk
    subst hk
    simp [mayN, fieldsB, blankB, ordOk, Nd.kind, Nd.s, Nd.t, Nd.n, Nd.ord, Nd.line, Nd.l]
    try (simp only [Bool.and_assoc, Bool.and_comm, Bool.and_left_comm])
    try (rw [Bool.eq_iff_iff]; simp only [Bool.and_eq_true, decide_eq_true_eq])
end
section
theorem tx_list (s : ByteArray) (a : List UInt8) : ((tx a).toList == s.toList) = decide (s.data.toList = a) := by
  rw [ByteArray.toList_eq, ByteArray.toList_eq]
  have e : (tx a).data.toList = a := by simp
  rw [e, beq_symm_list]
  by_cases h : s.data.toList = a
  · rw [h]; simp
  · rw [beq_eq_false_iff_ne.2 h, decide_eq_false h]
theorem inB_tx (l : List (List UInt8)) (s : ByteArray) : inB (l.map tx) s = decide (s.data.toList ∈ l) := by
  unfold inB
  induction l with
  | nil => simp
  | cons a l ih =>
    rw [List.map_cons, List.any_cons, ih, tx_list, ← Bool.decide_or, decide_eq_decide, List.mem_cons]
abbrev T1 : List ByteArray := [[61, 61], [33, 61], [60], [60, 61], [62], [62, 61]].map tx
abbrev T2 : List ByteArray := [[124]].map tx
abbrev T3 : List ByteArray := [[94]].map tx
abbrev T4 : List ByteArray := [[38]].map tx
abbrev T5 : List ByteArray := [[60, 60], [62, 62]].map tx
abbrev T6 : List ByteArray := [[43], [45]].map tx
abbrev T7 : List ByteArray := [[42], [47], [37]].map tx
theorem strength_in (s : ByteArray) : strengthN s.data.toList = if inB T1 s then 1 else if inB T2 s then 2 else if inB T3 s then 3 else if inB T4 s then 4 else if inB T5 s then 5 else if inB T6 s then 6 else if inB T7 s then 7 else 0 := by
  unfold strengthN
  simp only [inB_tx, decide_eq_true_eq, List.mem_cons, List.not_mem_nil, or_false]
theorem refStrength_r {base : Nat} (s : ByteArray) (h : Heap) : WpF S0 base k_spinnakerref23_Strength [.sc (.string s)] h fun v h' => v = V.int (strengthN s.data.toList) ∧ h' = h := by
  first | refine zu (A := f_spinnakerref23_Strength) rfl rfl rfl rfl ?_ | refine zB (A := f_spinnakerref23_Strength) rfl rfl rfl rfl ?_
  rw [strength_in]
  simp only [f_spinnakerref23_Strength, oD, cD]
  have f1 : zv 1 (List.replicate 6 [(.sc (.string ⟨#[]⟩))]) [(0, ((.sc (.string ⟨#[61, 61]⟩)))), (1, ((.sc (.string ⟨#[33, 61]⟩)))), (2, ((.sc (.string ⟨#[60]⟩)))), (3, ((.sc (.string ⟨#[60, 61]⟩)))), (4, ((.sc (.string ⟨#[62]⟩)))), (5, ((.sc (.string ⟨#[62, 61]⟩))))] = some (T1.map sv) := rfl
  have f2 : zv 1 (List.replicate 1 [(.sc (.string ⟨#[]⟩))]) [(0, ((.sc (.string ⟨#[124]⟩))))] = some (T2.map sv) := rfl
  have f3 : zv 1 (List.replicate 1 [(.sc (.string ⟨#[]⟩))]) [(0, ((.sc (.string ⟨#[94]⟩))))] = some (T3.map sv) := rfl
  have f4 : zv 1 (List.replicate 1 [(.sc (.string ⟨#[]⟩))]) [(0, ((.sc (.string ⟨#[38]⟩))))] = some (T4.map sv) := rfl
  have f5 : zv 1 (List.replicate 2 [(.sc (.string ⟨#[]⟩))]) [(0, ((.sc (.string ⟨#[60, 60]⟩)))), (1, ((.sc (.string ⟨#[62, 62]⟩))))] = some (T5.map sv) := rfl
  have f6 : zv 1 (List.replicate 2 [(.sc (.string ⟨#[]⟩))]) [(0, ((.sc (.string ⟨#[43]⟩)))), (1, ((.sc (.string ⟨#[45]⟩))))] = some (T6.map sv) := rfl
  have f7 : zv 1 (List.replicate 3 [(.sc (.string ⟨#[]⟩))]) [(0, ((.sc (.string ⟨#[42]⟩)))), (1, ((.sc (.string ⟨#[47]⟩)))), (2, ((.sc (.string ⟨#[37]⟩))))] = some (T7.map sv) := rfl
  have f0 : zv 1 (List.replicate 0 [V.sc (.string ⟨#[]⟩)]) [] = some [] := rfl
  have g1 : ((T1.map sv).all fun r => r.all ground) = true := rfl
  have g2 : ((T2.map sv).all fun r => r.all ground) = true := rfl
  have g3 : ((T3.map sv).all fun r => r.all ground) = true := rfl
  have g4 : ((T4.map sv).all fun r => r.all ground) = true := rfl
  have g5 : ((T5.map sv).all fun r => r.all ground) = true := rfl
  have g6 : ((T6.map sv).all fun r => r.all ground) = true := rfl
  have g7 : ((T7.map sv).all fun r => r.all ground) = true := rfl
  have f8 : ∀ a b c d e f g k : V, zv 1 (List.replicate 8 [V.sc (.slice none 0 0)]) [(0, .slc .lit 1 []), (1, .slc .lit 1 (T1.map sv)), (2, .slc .lit 1 (T2.map sv)), (3, .slc .lit 1 (T3.map sv)), (4, .slc .lit 1 (T4.map sv)), (5, .slc .lit 1 (T5.map sv)), (6, .slc .lit 1 (T6.map sv)), (7, .slc .lit 1 (T7.map sv))] =
    some [[.slc .lit 1 []], [.slc .lit 1 (T1.map sv)], [.slc .lit 1 (T2.map sv)], [.slc .lit 1 (T3.map sv)], [.slc .lit 1 (T4.map sv)], [.slc .lit 1 (T5.map sv)], [.slc .lit 1 (T6.map sv)], [.slc .lit 1 (T7.map sv)]] := fun _ _ _ _ _ _ _ _ => rfl
  have f8 := f8 .undef .undef .undef .undef .undef .undef .undef .undef
  refine zw (fun en' h' => en' 0 = .sc (.string s) ∧ h' = h) ?_ ?_
  · simp only [SQ, SQB, zm, AOp.opds, step, Opd.get, zk, bin, zc, IntKind.signed, zi, zj, zl, zb, unary, ze, zd, za, zo, zr, zh, zf, zg, zp, Cp.isFull, isNil, zq, Nat.reduceAdd, reduceCtorEq, reduceIte, Nat.reduceEqDiff, Int.reduceLE, Int.reduceLT, Int.reduceEq, Int.reduceBEq, Int.reduceGT, Int.reduceGE, Nat.reduceLT, Nat.reduceLeDiff, SQX, V.cells]
  rintro en1 h1 ⟨e0, rfl⟩
  refine zw (fun en' h' => en' 0 = .sc (.string s) ∧ en' 3 = .slc .lit 1 [[.slc .lit 1 []], [.slc .lit 1 (T1.map sv)], [.slc .lit 1 (T2.map sv)], [.slc .lit 1 (T3.map sv)], [.slc .lit 1 (T4.map sv)], [.slc .lit 1 (T5.map sv)], [.slc .lit 1 (T6.map sv)], [.slc .lit 1 (T7.map sv)]] ∧ h' = h1) ?_ ?_
  · simp only [SQ, SQB, zm, AOp.opds, step, Opd.get, zk, bin, zc, IntKind.signed, zi, zj, zl, zb, unary, ze, zd, za, zo, zr, zh, zf, zg, zp, Cp.isFull, isNil, zq, Nat.reduceAdd, reduceCtorEq, reduceIte, Nat.reduceEqDiff, Int.reduceLE, Int.reduceLT, Int.reduceEq, Int.reduceBEq, Int.reduceGT, Int.reduceGE, Nat.reduceLT, Nat.reduceLeDiff, SQX, V.cells, e0, getParts2, f0, f1, f2, f3, f4, f5, f6, f7, f8, g1, g2, g3, g4, g5, g6, g7]
  rintro en2 h2 ⟨e0, e3, rfl⟩
  clear f0 f1 f2 f3 f4 f5 f6 f7 f8 g1 g2 g3 g4 g5 g6 g7
  have c := fun (l : List ByteArray) (hl : l.length < 2 ^ 63) base h => in_r (base := base) l s .lit h hl
  have c1 := c T1 (by decide)
  have c2 := c T2 (by decide)
  have c3 := c T3 (by decide)
  have c4 := c T4 (by decide)
  have c5 := c T5 (by decide)
  have c6 := c T6 (by decide)
  have c7 := c T7 (by decide)
  clear c
  rw [WpC_seqD, WpC_seqD, WpC_region]
  simp only [SQ, SQB, zm, AOp.opds, step, Opd.get, zk, bin, zc, IntKind.signed, zi, zj, zl, zb, unary, ze, zd, za, zo, zr, zh, zf, zg, zp, Cp.isFull, isNil, zq, Nat.reduceAdd, reduceCtorEq, reduceIte, Nat.reduceEqDiff, Int.reduceLE, Int.reduceLT, Int.reduceEq, Int.reduceBEq, Int.reduceGT, Int.reduceGE, Nat.reduceLT, Nat.reduceLeDiff, SQX, V.cells]
  refine WpC_loopI (fun k en h' => ∃ i : Nat, k = 8 - i ∧ 1 ≤ i ∧ i ≤ 8 ∧ en 4 = V.int i ∧ en 0 = .sc (.string s) ∧ en 3 = en2 3 ∧ h' = h2 ∧ (1 < i → inB T1 s = false) ∧ (2 < i → inB T2 s = false) ∧ (3 < i → inB T3 s = false) ∧ (4 < i → inB T4 s = false) ∧ (5 < i → inB T5 s = false) ∧ (6 < i → inB T6 s = false) ∧ (7 < i → inB T7 s = false)) 7 ⟨1, rfl, by omega, by omega, rfl, e0, rfl, rfl, by omega, by omega, by omega, by omega, by omega, by omega, by omega⟩ ?_
  rintro k en h' ⟨i, rfl, hi1, hi8, e4, e0', e3', rfl, q1, q2, q3, q4, q5, q6, q7⟩
  rw [e3] at e3'
  have hi : i = 1 ∨ i = 2 ∨ i = 3 ∨ i = 4 ∨ i = 5 ∨ i = 6 ∨ i = 7 ∨ i = 8 := by omega
  have wr : IntKind.wrap .i64 ((i : Int) + 1) = ((i + 1 : Nat) : Int) := by rw [wrap_i64 (by omega) (by omega)]; rfl
  have l8 : ((8 : Nat) : Int) = 8 := rfl
  rcases hi with rfl | rfl | rfl | rfl | rfl | rfl | rfl | rfl
  · have lt : ((1 : Nat) : Int) < 8 := by decide
    cases q : inB T1 s
    · simp only [SQ, SQB, zm, AOp.opds, step, Opd.get, zk, bin, zc, IntKind.signed, zi, zj, zl, zb, unary, ze, zd, za, zo, zr, zh, zf, zg, zp, Cp.isFull, isNil, zq, Nat.reduceAdd, reduceCtorEq, reduceIte, Nat.reduceEqDiff, Int.reduceLE, Int.reduceLT, Int.reduceEq, Int.reduceBEq, Int.reduceGT, Int.reduceGE, Nat.reduceLT, Nat.reduceLeDiff, SQX, V.cells, e4, e0', e3', lt, l8, Int.toNat_natCast, zn (c1 _ _), q, wr]
      refine ⟨8 - (1 + 1), by omega, 1 + 1, rfl, by omega, by omega, rfl, e3.symm, ?_⟩
      repeat' (apply And.intro)
      all_goals first | omega | exact fun _ => by assumption | exact fun _ => trivial
    · simp only [SQ, SQB, zm, AOp.opds, step, Opd.get, zk, bin, zc, IntKind.signed, zi, zj, zl, zb, unary, ze, zd, za, zo, zr, zh, zf, zg, zp, Cp.isFull, isNil, zq, Nat.reduceAdd, reduceCtorEq, reduceIte, Nat.reduceEqDiff, Int.reduceLE, Int.reduceLT, Int.reduceEq, Int.reduceBEq, Int.reduceGT, Int.reduceGE, Nat.reduceLT, Nat.reduceLeDiff, SQX, V.cells, e4, e0', e3', lt, l8, Int.toNat_natCast, zn (c1 _ _), q]
      try rfl
  · have lt : ((2 : Nat) : Int) < 8 := by decide
    have p1 := q1 (by omega)
    cases q : inB T2 s
    · simp only [SQ, SQB, zm, AOp.opds, step, Opd.get, zk, bin, zc, IntKind.signed, zi, zj, zl, zb, unary, ze, zd, za, zo, zr, zh, zf, zg, zp, Cp.isFull, isNil, zq, Nat.reduceAdd, reduceCtorEq, reduceIte, Nat.reduceEqDiff, Int.reduceLE, Int.reduceLT, Int.reduceEq, Int.reduceBEq, Int.reduceGT, Int.reduceGE, Nat.reduceLT, Nat.reduceLeDiff, SQX, V.cells, e4, e0', e3', lt, l8, Int.toNat_natCast, zn (c2 _ _), q, wr]
      refine ⟨8 - (2 + 1), by omega, 2 + 1, rfl, by omega, by omega, rfl, e3.symm, ?_⟩
      repeat' (apply And.intro)
      all_goals first | omega | exact fun _ => by assumption | exact fun _ => trivial
    · simp only [SQ, SQB, zm, AOp.opds, step, Opd.get, zk, bin, zc, IntKind.signed, zi, zj, zl, zb, unary, ze, zd, za, zo, zr, zh, zf, zg, zp, Cp.isFull, isNil, zq, Nat.reduceAdd, reduceCtorEq, reduceIte, Nat.reduceEqDiff, Int.reduceLE, Int.reduceLT, Int.reduceEq, Int.reduceBEq, Int.reduceGT, Int.reduceGE, Nat.reduceLT, Nat.reduceLeDiff, SQX, V.cells, e4, e0', e3', lt, l8, Int.toNat_natCast, zn (c2 _ _), q, p1]
      try rfl
  · have lt : ((3 : Nat) : Int) < 8 := by decide
    have p1 := q1 (by omega)
    have p2 := q2 (by omega)
    cases q : inB T3 s
    · simp only [SQ, SQB, zm, AOp.opds, step, Opd.get, zk, bin, zc, IntKind.signed, zi, zj, zl, zb, unary, ze, zd, za, zo, zr, zh, zf, zg, zp, Cp.isFull, isNil, zq, Nat.reduceAdd, reduceCtorEq, reduceIte, Nat.reduceEqDiff, Int.reduceLE, Int.reduceLT, Int.reduceEq, Int.reduceBEq, Int.reduceGT, Int.reduceGE, Nat.reduceLT, Nat.reduceLeDiff, SQX, V.cells, e4, e0', e3', lt, l8, Int.toNat_natCast, zn (c3 _ _), q, wr]
      refine ⟨8 - (3 + 1), by omega, 3 + 1, rfl, by omega, by omega, rfl, e3.symm, ?_⟩
      repeat' (apply And.intro)
      all_goals first | omega | exact fun _ => by assumption | exact fun _ => trivial
    · simp only [SQ, SQB, zm, AOp.opds, step, Opd.get, zk, bin, zc, IntKind.signed, zi, zj, zl, zb, unary, ze, zd, za, zo, zr, zh, zf, zg, zp, Cp.isFull, isNil, zq, Nat.reduceAdd, reduceCtorEq, reduceIte, Nat.reduceEqDiff, Int.reduceLE, Int.reduceLT, Int.reduceEq, Int.reduceBEq, Int.reduceGT, Int.reduceGE, Nat.reduceLT, Nat.reduceLeDiff, SQX, V.cells, e4, e0', e3', lt, l8, Int.toNat_natCast, zn (c3 _ _), q, p1, p2]
      try rfl
  · have lt : ((4 : Nat) : Int) < 8 := by decide
    have p1 := q1 (by omega)
    have p2 := q2 (by omega)
    have p3 := q3 (by omega)
    cases q : inB T4 s
    · simp only [SQ, SQB, zm, AOp.opds, step, Opd.get, zk, bin, zc, IntKind.signed, zi, zj, zl, zb, unary, ze, zd, za, zo, zr, zh, zf, zg, zp, Cp.isFull, isNil, zq, Nat.reduceAdd, reduceCtorEq, reduceIte, Nat.reduceEqDiff, Int.reduceLE, Int.reduceLT, Int.reduceEq, Int.reduceBEq, Int.reduceGT, Int.reduceGE, Nat.reduceLT, Nat.reduceLeDiff, SQX, V.cells, e4, e0', e3', lt, l8, Int.toNat_natCast, zn (c4 _ _), q, wr]
      refine ⟨8 - (4 + 1), by omega, 4 + 1, rfl, by omega, by omega, rfl, e3.symm, ?_⟩
      repeat' (apply And.intro)
      all_goals first | omega | exact fun _ => by assumption | exact fun _ => trivial
    · simp only [SQ, SQB, zm, AOp.opds, step, Opd.get, zk, bin, zc, IntKind.signed, zi, zj, zl, zb, unary, ze, zd, za, zo, zr, zh, zf, zg, zp, Cp.isFull, isNil, zq, Nat.reduceAdd, reduceCtorEq, reduceIte, Nat.reduceEqDiff, Int.reduceLE, Int.reduceLT, Int.reduceEq, Int.reduceBEq, Int.reduceGT, Int.reduceGE, Nat.reduceLT, Nat.reduceLeDiff, SQX, V.cells, e4, e0', e3', lt, l8, Int.toNat_natCast, zn (c4 _ _), q, p1, p2, p3]
      try rfl
  · have lt : ((5 : Nat) : Int) < 8 := by decide
    have p1 := q1 (by omega)
    have p2 := q2 (by omega)
    have p3 := q3 (by omega)
    have p4 := q4 (by omega)
    cases q : inB T5 s
    · simp only [SQ, SQB, zm, AOp.opds, step, Opd.get, zk, bin, zc, IntKind.signed, zi, zj, zl, zb, unary, ze, zd, za, zo, zr, zh, zf, zg, zp, Cp.isFull, isNil, zq, Nat.reduceAdd, reduceCtorEq, reduceIte, Nat.reduceEqDiff, Int.reduceLE, Int.reduceLT, Int.reduceEq, Int.reduceBEq, Int.reduceGT, Int.reduceGE, Nat.reduceLT, Nat.reduceLeDiff, SQX, V.cells, e4, e0', e3', lt, l8, Int.toNat_natCast, zn (c5 _ _), q, wr]
      refine ⟨8 - (5 + 1), by omega, 5 + 1, rfl, by omega, by omega, rfl, e3.symm, ?_⟩
      repeat' (apply And.intro)
      all_goals first | omega | exact fun _ => by assumption | exact fun _ => trivial
    · simp only [SQ, SQB, zm, AOp.opds, step, Opd.get, zk, bin, zc, IntKind.signed, zi, zj, zl, zb, unary, ze, zd, za, zo, zr, zh, zf, zg, zp, Cp.isFull, isNil, zq, Nat.reduceAdd, reduceCtorEq, reduceIte, Nat.reduceEqDiff, Int.reduceLE, Int.reduceLT, Int.reduceEq, Int.reduceBEq, Int.reduceGT, Int.reduceGE, Nat.reduceLT, Nat.reduceLeDiff, SQX, V.cells, e4, e0', e3', lt, l8, Int.toNat_natCast, zn (c5 _ _), q, p1, p2, p3, p4]
      try rfl
  · have lt : ((6 : Nat) : Int) < 8 := by decide
    have p1 := q1 (by omega)
    have p2 := q2 (by omega)
    have p3 := q3 (by omega)
    have p4 := q4 (by omega)
    have p5 := q5 (by omega)
    cases q : inB T6 s
    · simp only [SQ, SQB, zm, AOp.opds, step, Opd.get, zk, bin, zc, IntKind.signed, zi, zj, zl, zb, unary, ze, zd, za, zo, zr, zh, zf, zg, zp, Cp.isFull, isNil, zq, Nat.reduceAdd, reduceCtorEq, reduceIte, Nat.reduceEqDiff, Int.reduceLE, Int.reduceLT, Int.reduceEq, Int.reduceBEq, Int.reduceGT, Int.reduceGE, Nat.reduceLT, Nat.reduceLeDiff, SQX, V.cells, e4, e0', e3', lt, l8, Int.toNat_natCast, zn (c6 _ _), q, wr]
      refine ⟨8 - (6 + 1), by omega, 6 + 1, rfl, by omega, by omega, rfl, e3.symm, ?_⟩
      repeat' (apply And.intro)
      all_goals first | omega | exact fun _ => by assumption | exact fun _ => trivial
    · simp only [SQ, SQB, zm, AOp.opds, step, Opd.get, zk, bin, zc, IntKind.signed, zi, zj, zl, zb, unary, ze, zd, za, zo, zr, zh, zf, zg, zp, Cp.isFull, isNil, zq, Nat.reduceAdd, reduceCtorEq, reduceIte, Nat.reduceEqDiff, Int.reduceLE, Int.reduceLT, Int.reduceEq, Int.reduceBEq, Int.reduceGT, Int.reduceGE, Nat.reduceLT, Nat.reduceLeDiff, SQX, V.cells, e4, e0', e3', lt, l8, Int.toNat_natCast, zn (c6 _ _), q, p1, p2, p3, p4, p5]
      try rfl
  · have lt : ((7 : Nat) : Int) < 8 := by decide
    have p1 := q1 (by omega)
    have p2 := q2 (by omega)
    have p3 := q3 (by omega)
    have p4 := q4 (by omega)
    have p5 := q5 (by omega)
    have p6 := q6 (by omega)
    cases q : inB T7 s
    · simp only [SQ, SQB, zm, AOp.opds, step, Opd.get, zk, bin, zc, IntKind.signed, zi, zj, zl, zb, unary, ze, zd, za, zo, zr, zh, zf, zg, zp, Cp.isFull, isNil, zq, Nat.reduceAdd, reduceCtorEq, reduceIte, Nat.reduceEqDiff, Int.reduceLE, Int.reduceLT, Int.reduceEq, Int.reduceBEq, Int.reduceGT, Int.reduceGE, Nat.reduceLT, Nat.reduceLeDiff, SQX, V.cells, e4, e0', e3', lt, l8, Int.toNat_natCast, zn (c7 _ _), q, wr]
      refine ⟨8 - (7 + 1), by omega, 7 + 1, rfl, by omega, by omega, rfl, e3.symm, ?_⟩
      repeat' (apply And.intro)
      all_goals first | omega | exact fun _ => by assumption | exact fun _ => trivial
    · simp only [SQ, SQB, zm, AOp.opds, step, Opd.get, zk, bin, zc, IntKind.signed, zi, zj, zl, zb, unary, ze, zd, za, zo, zr, zh, zf, zg, zp, Cp.isFull, isNil, zq, Nat.reduceAdd, reduceCtorEq, reduceIte, Nat.reduceEqDiff, Int.reduceLE, Int.reduceLT, Int.reduceEq, Int.reduceBEq, Int.reduceGT, Int.reduceGE, Nat.reduceLT, Nat.reduceLeDiff, SQX, V.cells, e4, e0', e3', lt, l8, Int.toNat_natCast, zn (c7 _ _), q, p1, p2, p3, p4, p5, p6]
      try rfl
  · have lt : ¬ ((8 : Nat) : Int) < 8 := by decide
    have p1 := q1 (by omega)
    have p2 := q2 (by omega)
    have p3 := q3 (by omega)
    have p4 := q4 (by omega)
    have p5 := q5 (by omega)
    have p6 := q6 (by omega)
    have p7 := q7 (by omega)
    simp only [SQ, SQB, zm, AOp.opds, step, Opd.get, zk, bin, zc, IntKind.signed, zi, zj, zl, zb, unary, ze, zd, za, zo, zr, zh, zf, zg, zp, Cp.isFull, isNil, zq, Nat.reduceAdd, reduceCtorEq, reduceIte, Nat.reduceEqDiff, Int.reduceLE, Int.reduceLT, Int.reduceEq, Int.reduceBEq, Int.reduceGT, Int.reduceGE, Nat.reduceLT, Nat.reduceLeDiff, SQX, V.cells, e4, e0', e3', lt, l8, p1, p2, p3, p4, p5, p6, p7]
    try rfl
end
section
def ExprOk (x : Nd) : Prop := ∀ (base : Nat) (cs : List V) (h : Heap), NdV x cs → WpF S0 base k_spinnakerref23_Expr [.agg cs] h fun v h' => v = .bool (okK zA 20 24 x) ∧ h' = h
theorem take_all {α : Type} {p : α → Bool} {l : List α} {i : Nat} (hi : i < l.length) (h : (l.take i).all p = true) (hp : p l[i] = true) : (l.take (i + 1)).all p = true := by
  rw [List.take_add_one, List.getElem?_eq_getElem hi, List.all_append, h]
  simp [hp]
theorem all_not {α : Type} {p : α → Bool} {l : List α} {i : Nat} (hi : i < l.length) (hp : p l[i] = false) : l.all p = false := by
  rw [← Bool.not_eq_true, List.all_eq_true]
  intro q
  rw [q _ (List.getElem_mem hi)] at hp
  simp at hp
theorem agg_load {h : Heap} {r : List V} (h7 : r.length = 7) : zl h (some 7) (.eptr r 0) = some (.agg r) := by
  simp only [zl, zb, h7]
  simp [← h7]
theorem NdV.len {x : Nd} {cs : List V} (h : NdV x cs) : cs.length = 7 := by
  obtain ⟨lv, rfl, _⟩ := h.open
  rfl
theorem exprs_r {base : Nat} {lv : V} {l : List Nd} (hl : LV lv l) (n : Int) (h : Heap) (hE : ∀ y ∈ l, ExprOk y) : WpF S0 base k_spinnakerref23_exprs [lv, .sc (.int .i64 n)] h fun v h' => v = .bool (decide ((l.length : Int) = n) && allN zA 20 24 l) ∧ h' = h := by
  first | refine zu (A := f_spinnakerref23_exprs) rfl rfl rfl rfl ?_ | refine zB (A := f_spinnakerref23_exprs) rfl rfl rfl rfl ?_
  simp only [f_spinnakerref23_exprs, oD, cD]
  have ll := hl.len
  have lt := hl.lt
  rw [allN_all]
  by_cases hn : (l.length : Int) = n
  · have hn' : ¬ (l.length : Int) ≠ n := fun e => e hn
    simp only [SQ, SQB, zm, AOp.opds, step, Opd.get, bin, zc, IntKind.signed, zi, zj, zl, zb, unary, ze, zd, za, zo, zr, zh, zf, zg, zp, Cp.isFull, isNil, zq, simprocAttr, SQX, V.cells, ll, hn, Bool.true_and]
    refine WpC_loopI (fun k en h' => ∃ i : Nat, k = l.length - i ∧ i ≤ l.length ∧ en 5 = V.int i ∧ en 0 = lv ∧ (l.take i).all (okK zA 20 24) = true ∧ h' = h) l.length ⟨0, rfl, Nat.zero_le _, rfl, rfl, rfl, rfl⟩ ?_
    rintro k en h' ⟨i, rfl, hi, e5, e0, hall, rfl⟩
    by_cases h1 : i < l.length
    · obtain ⟨r, hr1, hr2⟩ := hl.get h1
      have hc := fun base h => hE l[i] (List.getElem_mem h1) base r h hr2
      cases hk : okK zA 20 24 l[i]
      · rw [hk] at hc
        simp only [SQ, SQB, zm, AOp.opds, step, Opd.get, bin, zc, IntKind.signed, zj, zb, unary, ze, zd, za, zo, zr, zh, zf, zg, zp, Cp.isFull, isNil, zq, simprocAttr, SQX, V.cells, e5, e0, ll, h1, hr1, agg_load hr2.len, zn (hc _ _), all_not h1 hk]
      · rw [hk] at hc
        simp only [SQ, SQB, zm, AOp.opds, step, Opd.get, bin, zc, IntKind.signed, zj, zb, unary, ze, zd, za, zo, zr, zh, zf, zg, zp, Cp.isFull, isNil, zq, simprocAttr, SQX, V.cells, e5, e0, ll, h1, hr1, agg_load hr2.len, zn (hc _ _)]
        exact ⟨l.length - (i + 1), by omega, i + 1, rfl, by omega, by rw [wrap_i64 (by omega) (by omega)]; rfl, take_all h1 hall hk⟩
    · have : l.take i = l := List.take_of_length_le (by omega)
      rw [this] at hall
      simp only [SQ, SQB, zm, AOp.opds, step, Opd.get, bin, zc, IntKind.signed, zj, zb, unary, ze, zd, za, zo, zr, zh, zf, zg, zp, Cp.isFull, isNil, zq, simprocAttr, SQX, V.cells, e5, e0, ll, h1, hall]
  · simp only [SQ, SQB, zm, AOp.opds, step, Opd.get, bin, zc, IntKind.signed, zi, zj, zl, zb, unary, ze, zd, za, zo, zr, zh, zf, zg, zp, Cp.isFull, isNil, zq, simprocAttr, SQX, V.cells, ll, hn, Bool.false_and]
end
section
theorem str_eq (s : ByteArray) (a : List UInt8) : (s.toList == (⟨a.toArray⟩ : ByteArray).toList) = decide (s.data.toList = a) := by
  have := tx_list s a
  rw [beq_symm_list] at this
  exact this
theorem zC {a b c d e f g : V} : [a, b, c, d, e, f, g].take 7 = [a, b, c, d, e, f, g] := rfl
set_option maxHeartbeats 4000000 in
theorem expr_r (n : Nat) : ∀ (x : Nd), szN x ≤ n → ExprOk x := by
  refine n.rec (fun x hn => ?_) (fun n ih x hn => ?_)
  · cases x; simp [szN] at hn
  have hE : ∀ y ∈ x.l, ExprOk y := fun y hy => ih y (by have := sz_child hy; omega)
  intro base cs h hv
  first | refine zu (A := f_spinnakerref23_Expr) rfl rfl rfl rfl ?_ | refine zB (A := f_spinnakerref23_Expr) rfl rfl rfl rfl ?_
  obtain ⟨lv, rfl, hl⟩ := hv.open
  simp only [f_spinnakerref23_Expr, oD, cD]
  refine zw (fun en' h' => en' 1 = .eptr [.sc (.int .i64 x.kind), .sc (.string x.s), .sc (.string x.t), .sc (.int .i64 x.n), .sc (.int .i64 x.ord), .sc (.int .i64 x.line), lv] 0 ∧ h' = h) ?_ ?_
  · simp only [SQ, SQB, zm, AOp.opds, step, Opd.get, zk, bin, zc, IntKind.signed, zi, zj, zl, zb, unary, ze, zd, za, zo, zr, zh, zf, zg, zp, Cp.isFull, isNil, zq, simprocAttr, SQX, V.cells, hl.gr]
  rintro en1 h1 ⟨e1, rfl⟩
  by_cases hk : x.kind = 20
  · have hb := fun base h => blank_r (base := base) hv ⟨#[78]⟩ false false true false false h (by decide) (by decide) (by decide) (by decide) (by decide) (by decide)
    have he : okK zA 20 24 x = mayN zA x := by simp [okK, hk]
    rw [he, mayN_20 hk]
    rw [hk] at hb e1
    generalize hA : blankB zA false false true false false x = A at hb
    cases A <;> by_cases p1 : 0 ≤ x.n <;> simp only [SQ, SQB, zm, AOp.opds, step, Opd.get, bin, zc, IntKind.signed, zi, zj, zl, zb, unary, ze, zd, za, zo, zr, zh, zf, zg, zp, Cp.isFull, isNil, zq, simprocAttr, SQX, V.cells, hk, hl.len, zC, str_eq, zn (hb _ _), p1, e1, zE, Bool.and_false, Bool.false_and, Bool.or_false, Bool.false_or, Bool.true_or, Bool.or_true]
    all_goals first | done | (simp; done) | (simp; omega) | omega | skip
  by_cases hk : x.kind = 21
  · have hb := fun base h => blank_r (base := base) hv ⟨#[83]⟩ true false false false false h (by decide) (by decide) (by decide) (by decide) (by decide) (by decide)
    have he : okK zA 20 24 x = mayN zA x := by simp [okK, hk]
    rw [he, mayN_21 hk]
    rw [hk] at hb e1
    generalize hA : blankB zA true false false false false x = A at hb
    cases A <;> simp only [SQ, SQB, zm, AOp.opds, step, Opd.get, bin, zc, IntKind.signed, zi, zj, zl, zb, unary, ze, zd, za, zo, zr, zh, zf, zg, zp, Cp.isFull, isNil, zq, simprocAttr, SQX, V.cells, hk, hl.len, zC, str_eq, zn (hb _ _), e1, zE, Bool.and_false, Bool.false_and, Bool.or_false, Bool.false_or, Bool.true_or, Bool.or_true]
    all_goals first | done | (simp; done) | (simp; omega) | omega | skip
  by_cases hk : x.kind = 22
  · have hb := fun base h => blank_r (base := base) hv ⟨#[83, 76]⟩ true false false false true h (by decide) (by decide) (by decide) (by decide) (by decide) (by decide)
    have he : okK zA 20 24 x = mayN zA x := by simp [okK, hk]
    rw [he, mayN_22 hk]
    rw [hk] at hb e1
    generalize hA : blankB zA true false false false true x = A at hb
    have he1 := fun base h => exprs_r (base := base) hl 1 h hE
    generalize hX1 : (decide ((x.l.length : Int) = 1) && allN zA 20 24 x.l) = X1 at he1
    have hY1 : (decide (x.l.length = 1) && allN zA 20 24 x.l) = X1 := by rw [← hX1]; congr 1; rw [decide_eq_decide]; omega
    rw [hY1]
    cases A <;> cases X1 <;> simp only [SQ, SQB, zm, AOp.opds, step, Opd.get, bin, zc, IntKind.signed, zi, zj, zl, zb, unary, ze, zd, za, zo, zr, zh, zf, zg, zp, Cp.isFull, isNil, zq, simprocAttr, SQX, V.cells, hk, hl.len, zC, str_eq, zn (hb _ _), zn (he1 _ _), e1, zE, Bool.and_false, Bool.false_and, Bool.or_false, Bool.false_or, Bool.true_or, Bool.or_true]
    all_goals first | done | (simp; done) | (simp; omega) | omega | skip
  by_cases hk : x.kind = 23
  · have hb := fun base h => blank_r (base := base) hv ⟨#[84, 76]⟩ false true false false true h (by decide) (by decide) (by decide) (by decide) (by decide) (by decide)
    have he : okK zA 20 24 x = mayN zA x := by simp [okK, hk]
    rw [he, mayN_23 hk]
    rw [hk] at hb e1
    generalize hA : blankB zA false true false false true x = A at hb
    have hs1 := fun base h => refStrength_r (base := base) x.t h
    have he2 := fun base h => exprs_r (base := base) hl 2 h hE
    generalize hX2 : (decide ((x.l.length : Int) = 2) && allN zA 20 24 x.l) = X2 at he2
    have hY2 : (decide (x.l.length = 2) && allN zA 20 24 x.l) = X2 := by rw [← hX2]; congr 1; rw [decide_eq_decide]; omega
    rw [hY2]
    cases A <;> by_cases p1 : 0 < strengthN x.t.data.toList <;> cases X2 <;> simp only [SQ, SQB, zm, AOp.opds, step, Opd.get, bin, zc, IntKind.signed, zi, zj, zl, zb, unary, ze, zd, za, zo, zr, zh, zf, zg, zp, Cp.isFull, isNil, zq, simprocAttr, SQX, V.cells, hk, hl.len, zC, str_eq, zn (hb _ _), zn (hs1 _ _), p1, Int.natCast_pos, zn (he2 _ _), e1, zE, Bool.and_false, Bool.false_and, Bool.or_false, Bool.false_or, Bool.true_or, Bool.or_true]
    all_goals first | done | (simp; done) | (simp; omega) | omega | skip
  by_cases hk : x.kind = 24
  · have hb := fun base h => blank_r (base := base) hv ⟨#[84, 76]⟩ false true false false true h (by decide) (by decide) (by decide) (by decide) (by decide) (by decide)
    have he : okK zA 20 24 x = mayN zA x := by simp [okK, hk]
    rw [he, mayN_24 hk]
    rw [hk] at hb e1
    generalize hA : blankB zA false true false false true x = A at hb
    have he4 := fun base h => exprs_r (base := base) hl 1 h hE
    generalize hX4 : (decide ((x.l.length : Int) = 1) && allN zA 20 24 x.l) = X4 at he4
    have hY4 : (decide (x.l.length = 1) && allN zA 20 24 x.l) = X4 := by rw [← hX4]; congr 1; rw [decide_eq_decide]; omega
    rw [hY4]
    rw [Bool.decide_or, Bool.decide_or]
    cases A <;> cases p1 : decide (x.t.data.toList = [45]) <;> cases p2 : decide (x.t.data.toList = [33]) <;> cases p3 : decide (x.t.data.toList = [126]) <;> cases X4 <;> simp only [SQ, SQB, zm, AOp.opds, step, Opd.get, bin, zc, IntKind.signed, zi, zj, zl, zb, unary, ze, zd, za, zo, zr, zh, zf, zg, zp, Cp.isFull, isNil, zq, simprocAttr, SQX, V.cells, hk, hl.len, zC, str_eq, zn (hb _ _), p1, p2, p3, zn (he4 _ _), e1, zE, Bool.and_false, Bool.false_and, Bool.or_false, Bool.false_or, Bool.true_or, Bool.or_true]
    all_goals first | done | (simp; done) | (simp; omega) | omega | skip
  have he : okK zA 20 24 x = false := by
    unfold okK
    rw [decide_eq_false (by omega)]
    rfl
  rw [he]
  simp only [SQ, SQB, zm, AOp.opds, step, Opd.get, zk, bin, zc, IntKind.signed, zi, zj, zl, zb, unary, ze, zd, za, zo, zr, zh, zf, zg, zp, Cp.isFull, isNil, zq, simprocAttr, SQX, V.cells, e1, *]
end
section
def StmtOk (x : Nd) : Prop := ∀ (base : Nat) (cs : List V) (h : Heap), NdV x cs → WpF S0 base k_spinnakerref23_Stmt [.agg cs] h fun v h' => v = .bool (okK zA 8 19 x) ∧ h' = h
def BlockOk (x : Nd) : Prop := ∀ (base : Nat) (cs : List V) (h : Heap), NdV x cs → WpF S0 base k_spinnakerref23_Block [.agg cs] h fun v h' => v = .bool (okK zA 7 7 x) ∧ h' = h
theorem block_of {x : Nd} (hS : ∀ y ∈ x.l, StmtOk y) : BlockOk x := by
  intro base cs h hv
  first | refine zu (A := f_spinnakerref23_Block) rfl rfl rfl rfl ?_ | refine zB (A := f_spinnakerref23_Block) rfl rfl rfl rfl ?_
  obtain ⟨lv, rfl, hl⟩ := hv.open
  simp only [f_spinnakerref23_Block, oD, cD]
  refine zw (fun en' h' => en' 1 = .eptr [.sc (.int .i64 x.kind), .sc (.string x.s), .sc (.string x.t), .sc (.int .i64 x.n), .sc (.int .i64 x.ord), .sc (.int .i64 x.line), lv] 0 ∧ h' = h) ?_ ?_
  · simp only [SQ, SQB, zm, AOp.opds, step, Opd.get, zk, bin, zc, IntKind.signed, zi, zj, zl, zb, unary, ze, zd, za, zo, zr, zh, zf, zg, zp, Cp.isFull, isNil, zq, simprocAttr, SQX, V.cells, hl.gr]
  rintro en1 h1 ⟨e1, rfl⟩
  by_cases hk : x.kind = 7
  · have hb := fun base h => blank_r (base := base) hv ⟨#[76]⟩ false false false false true h (by decide) (by decide) (by decide) (by decide) (by decide) (by decide)
    have he : okK zA 7 7 x = mayN zA x := by simp [okK, hk]
    rw [he, mayN_7 hk, allN_all]
    rw [hk] at hb e1
    have ll := hl.len
    have lt := hl.lt
    generalize hA : blankB zA false false false false true x = A at hb
    cases A
    · simp only [SQ, SQB, zm, AOp.opds, step, Opd.get, bin, zc, IntKind.signed, zi, zj, zl, zb, unary, ze, zd, za, zo, zr, zh, zf, zg, zp, Cp.isFull, isNil, zq, simprocAttr, SQX, V.cells, e1, hk, zC, zn (hb _ _), Bool.false_and]
    · simp only [SQ, SQB, zm, AOp.opds, step, Opd.get, bin, zc, IntKind.signed, zi, zj, zl, zb, unary, ze, zd, za, zo, zr, zh, zf, zg, zp, Cp.isFull, isNil, zq, simprocAttr, SQX, V.cells, e1, hk, zC, zn (hb _ _), Bool.true_and]
      refine WpC_loopI (fun k en h' => ∃ i : Nat, k = x.l.length - i ∧ i ≤ x.l.length ∧ en 3 = V.int i ∧ en 1 = en1 1 ∧ (x.l.take i).all (okK zA 8 19) = true ∧ h' = h1) x.l.length ⟨0, rfl, Nat.zero_le _, rfl, rfl, rfl, rfl⟩ ?_
      rintro k en h' ⟨i, rfl, hi, e3, e0, hall, rfl⟩
      rw [e1] at e0
      by_cases h1 : i < x.l.length
      · obtain ⟨r, hr1, hr2⟩ := hl.get h1
        obtain ⟨lv2, rfl, _⟩ := hr2.open
        have hc := fun base h => hS x.l[i] (List.getElem_mem h1) base _ h hr2
        cases hk : okK zA 8 19 x.l[i]
        · rw [hk] at hc
          simp only [SQ, SQB, zm, AOp.opds, step, Opd.get, bin, zc, IntKind.signed, zj, zl, zb, unary, ze, zd, za, zo, zr, zh, zf, zg, zp, Cp.isFull, isNil, zq, simprocAttr, SQX, V.cells, e3, e0, ll, h1, hr1, zC, zn (hc _ _), all_not h1 hk]
        · rw [hk] at hc
          simp only [SQ, SQB, zm, AOp.opds, step, Opd.get, bin, zc, IntKind.signed, zj, zl, zb, unary, ze, zd, za, zo, zr, zh, zf, zg, zp, Cp.isFull, isNil, zq, simprocAttr, SQX, V.cells, e3, e0, ll, h1, hr1, zC, zn (hc _ _)]
          exact ⟨x.l.length - (i + 1), by omega, i + 1, rfl, by omega, by rw [wrap_i64 (by omega) (by omega)]; rfl, e1.symm, take_all h1 hall hk⟩
      · have : x.l.take i = x.l := List.take_of_length_le (by omega)
        rw [this] at hall
        simp only [SQ, SQB, zm, AOp.opds, step, Opd.get, bin, zc, IntKind.signed, zj, zl, zb, unary, ze, zd, za, zo, zr, zh, zf, zg, zp, Cp.isFull, isNil, zq, simprocAttr, SQX, V.cells, e3, e0, ll, h1, hall]
  · have he : okK zA 7 7 x = false := by
      unfold okK
      rw [decide_eq_false (by omega)]
      rfl
    rw [he]
    simp only [SQ, SQB, zm, AOp.opds, step, Opd.get, zk, bin, zc, IntKind.signed, zi, zj, zl, zb, unary, ze, zd, za, zo, zr, zh, zf, zg, zp, Cp.isFull, isNil, zq, simprocAttr, SQX, V.cells, e1, hk]
end
section
theorem LV.two {lv : V} {l : List Nd} (h : LV lv l) (h2 : l.length = 2) : ∃ ex r0 r1 a b, lv = .slc ex 7 [r0, r1] ∧ l = [a, b] ∧ NdV a r0 ∧ NdV b r1 := by
  rcases h with ⟨_, rfl⟩ | ⟨ex, rows, rfl, h, _⟩
  · simp at h2
  · match l, h2 with
    | [a, b], _ =>
      simp only [NdR] at h
      obtain ⟨r0, _, rfl, q0, r1, _, rfl, q1, rfl⟩ := h
      exact ⟨ex, r0, r1, a, b, rfl, rfl, q0, q1⟩
theorem LV.three {lv : V} {l : List Nd} (h : LV lv l) (h2 : l.length = 3) : ∃ ex r0 r1 r2 a b c, lv = .slc ex 7 [r0, r1, r2] ∧ l = [a, b, c] ∧ NdV a r0 ∧ NdV b r1 ∧ NdV c r2 := by
  rcases h with ⟨_, rfl⟩ | ⟨ex, rows, rfl, h, _⟩
  · simp at h2
  · match l, h2 with
    | [a, b, c], _ =>
      simp only [NdR] at h
      obtain ⟨r0, _, rfl, q0, r1, _, rfl, q1, r2, _, rfl, q2, rfl⟩ := h
      exact ⟨ex, r0, r1, r2, a, b, c, rfl, rfl, q0, q1, q2⟩
theorem head2 {nm : ByteArray → Bool} {a b : Nd} : headN nm [a, b] = (okK nm 20 24 a && okK nm 7 7 b) := by simp [headN, allN, okK]
theorem head3 {nm : ByteArray → Bool} {a b c : Nd} : headN nm [a, b, c] = (okK nm 20 24 a && (okK nm 7 7 b && okK nm 7 7 c)) := by simp [headN, allN, okK]
set_option maxHeartbeats 8000000 in
theorem stmt_r (n : Nat) : ∀ (x : Nd), szN x ≤ n → StmtOk x := by
  refine n.rec (fun x hn => ?_) (fun n ih x hn => ?_)
  · cases x; simp [szN] at hn
  have hE : ∀ y ∈ x.l, ExprOk y := fun y _ => expr_r _ y (Nat.le_refl _)
  have hB : ∀ y ∈ x.l, BlockOk y := fun y hy => block_of fun z hz => ih z (by have := sz_child hy; have := sz_child hz; omega)
  intro base cs h hv
  first | refine zu (A := f_spinnakerref23_Stmt) rfl rfl rfl rfl ?_ | refine zB (A := f_spinnakerref23_Stmt) rfl rfl rfl rfl ?_
  obtain ⟨lv, rfl, hl⟩ := hv.open
  simp only [f_spinnakerref23_Stmt, oD, cD]
  refine zw (fun en' h' => en' 1 = .eptr [.sc (.int .i64 x.kind), .sc (.string x.s), .sc (.string x.t), .sc (.int .i64 x.n), .sc (.int .i64 x.ord), .sc (.int .i64 x.line), lv] 0 ∧ h' = h) ?_ ?_
  · simp only [SQ, SQB, zm, AOp.opds, step, Opd.get, zk, bin, zc, IntKind.signed, zi, zj, zl, zb, unary, ze, zd, za, zo, zr, zh, zf, zg, zp, Cp.isFull, isNil, zq, simprocAttr, SQX, V.cells, hl.gr]
  rintro en1 h1 ⟨e1, rfl⟩
  refine zw (fun en' h' => en' 1 = .eptr [.sc (.int .i64 x.kind), .sc (.string x.s), .sc (.string x.t), .sc (.int .i64 x.n), .sc (.int .i64 x.ord), .sc (.int .i64 x.line), lv] 0 ∧ en' 3 = .sc (.int .i64 x.ord) ∧ h' = h1) ?_ ?_
  · simp only [SQ, SQB, zm, AOp.opds, step, Opd.get, zk, bin, zc, IntKind.signed, zi, zj, zl, zb, unary, ze, zd, za, zo, zr, zh, zf, zg, zp, Cp.isFull, isNil, zq, simprocAttr, SQX, V.cells, e1]
  clear e1
  rintro en2 h2 ⟨e1, e3, rfl⟩
  by_cases hk : x.kind = 8
  · have hb := fun base h => blank_r (base := base) hv ⟨#[83, 76]⟩ true false false false true h (by decide) (by decide) (by decide) (by decide) (by decide) (by decide)
    have he : okK zA 8 19 x = mayN zA x := by simp [okK, hk]
    rw [he, mayN_8 hk]
    rw [hk] at hb e1
    generalize hA : blankB zA true false false false true x = A at hb
    have he1 := fun base h => exprs_r (base := base) hl 1 h hE
    generalize hX1 : (decide ((x.l.length : Int) = 1) && allN zA 20 24 x.l) = X1 at he1
    have hY1 : (decide (x.l.length = 1) && allN zA 20 24 x.l) = X1 := by rw [← hX1]; congr 1; rw [decide_eq_decide]; omega
    rw [hY1]
    cases A
    · (simp only [SQ, SQB, zm, AOp.opds, step, Opd.get, bin, zc, IntKind.signed, zi, zj, zl, zb, unary, ze, zd, za, zo, zr, zh, zf, zg, zp, Cp.isFull, isNil, zq, simprocAttr, SQX, V.cells, hk, hl.len, zC, str_eq, zn (hb _ _), zn (he1 _ _), e1, e3, zE, Bool.and_false, Bool.false_and, Bool.or_false, Bool.false_or, Bool.true_or, Bool.or_true]) <;> first | done | (simp; done) | (simp; omega) | omega
    · cases X1
      · (simp only [SQ, SQB, zm, AOp.opds, step, Opd.get, bin, zc, IntKind.signed, zi, zj, zl, zb, unary, ze, zd, za, zo, zr, zh, zf, zg, zp, Cp.isFull, isNil, zq, simprocAttr, SQX, V.cells, hk, hl.len, zC, str_eq, zn (hb _ _), zn (he1 _ _), e1, e3, zE, Bool.and_false, Bool.false_and, Bool.or_false, Bool.false_or, Bool.true_or, Bool.or_true]) <;> first | done | (simp; done) | (simp; omega) | omega
      · (simp only [SQ, SQB, zm, AOp.opds, step, Opd.get, bin, zc, IntKind.signed, zi, zj, zl, zb, unary, ze, zd, za, zo, zr, zh, zf, zg, zp, Cp.isFull, isNil, zq, simprocAttr, SQX, V.cells, hk, hl.len, zC, str_eq, zn (hb _ _), zn (he1 _ _), e1, e3, zE, Bool.and_false, Bool.false_and, Bool.or_false, Bool.false_or, Bool.true_or, Bool.or_true]) <;> first | done | (simp; done) | (simp; omega) | omega
  by_cases hk : x.kind = 9
  · have hb := fun base h => blank_r (base := base) hv ⟨#[83, 76]⟩ true false false false true h (by decide) (by decide) (by decide) (by decide) (by decide) (by decide)
    have he : okK zA 8 19 x = mayN zA x := by simp [okK, hk]
    rw [he, mayN_9 hk]
    rw [hk] at hb e1
    generalize hA : blankB zA true false false false true x = A at hb
    have he1 := fun base h => exprs_r (base := base) hl 2 h hE
    generalize hX1 : (decide ((x.l.length : Int) = 2) && allN zA 20 24 x.l) = X1 at he1
    have hY1 : (decide (x.l.length = 2) && allN zA 20 24 x.l) = X1 := by rw [← hX1]; congr 1; rw [decide_eq_decide]; omega
    rw [hY1]
    cases A
    · (simp only [SQ, SQB, zm, AOp.opds, step, Opd.get, bin, zc, IntKind.signed, zi, zj, zl, zb, unary, ze, zd, za, zo, zr, zh, zf, zg, zp, Cp.isFull, isNil, zq, simprocAttr, SQX, V.cells, hk, hl.len, zC, str_eq, zn (hb _ _), zn (he1 _ _), e1, e3, zE, Bool.and_false, Bool.false_and, Bool.or_false, Bool.false_or, Bool.true_or, Bool.or_true]) <;> first | done | (simp; done) | (simp; omega) | omega
    · cases X1
      · (simp only [SQ, SQB, zm, AOp.opds, step, Opd.get, bin, zc, IntKind.signed, zi, zj, zl, zb, unary, ze, zd, za, zo, zr, zh, zf, zg, zp, Cp.isFull, isNil, zq, simprocAttr, SQX, V.cells, hk, hl.len, zC, str_eq, zn (hb _ _), zn (he1 _ _), e1, e3, zE, Bool.and_false, Bool.false_and, Bool.or_false, Bool.false_or, Bool.true_or, Bool.or_true]) <;> first | done | (simp; done) | (simp; omega) | omega
      · (simp only [SQ, SQB, zm, AOp.opds, step, Opd.get, bin, zc, IntKind.signed, zi, zj, zl, zb, unary, ze, zd, za, zo, zr, zh, zf, zg, zp, Cp.isFull, isNil, zq, simprocAttr, SQX, V.cells, hk, hl.len, zC, str_eq, zn (hb _ _), zn (he1 _ _), e1, e3, zE, Bool.and_false, Bool.false_and, Bool.or_false, Bool.false_or, Bool.true_or, Bool.or_true]) <;> first | done | (simp; done) | (simp; omega) | omega
  by_cases hk : x.kind = 10
  · have hb := fun base h => blank_r (base := base) hv ⟨#[83, 84, 79]⟩ true true false true false h (by decide) (by decide) (by decide) (by decide) (by decide) (by decide)
    have he : okK zA 8 19 x = mayN zA x := by simp [okK, hk]
    rw [he, mayN_10 hk]
    rw [hk] at hb e1
    generalize hA : blankB zA true true false true false x = A at hb
    have hn1 := fun base h => refName_r (base := base) x.t h
    generalize hT1 : zA x.t = N1 at hn1
    rw [Bool.decide_or]
    cases A
    · (simp only [SQ, SQB, zm, AOp.opds, step, Opd.get, bin, zc, IntKind.signed, zi, zj, zl, zb, unary, ze, zd, za, zo, zr, zh, zf, zg, zp, Cp.isFull, isNil, zq, simprocAttr, SQX, V.cells, hk, hl.len, zC, str_eq, zn (hb _ _), zn (hn1 _ _), e1, e3, zE, Bool.and_false, Bool.false_and, Bool.or_false, Bool.false_or, Bool.true_or, Bool.or_true]) <;> first | done | (simp; done) | (simp; omega) | omega
    · cases N1
      · (simp only [SQ, SQB, zm, AOp.opds, step, Opd.get, bin, zc, IntKind.signed, zi, zj, zl, zb, unary, ze, zd, za, zo, zr, zh, zf, zg, zp, Cp.isFull, isNil, zq, simprocAttr, SQX, V.cells, hk, hl.len, zC, str_eq, zn (hb _ _), zn (hn1 _ _), e1, e3, zE, Bool.and_false, Bool.false_and, Bool.or_false, Bool.false_or, Bool.true_or, Bool.or_true]) <;> first | done | (simp; done) | (simp; omega) | omega
      · cases p2 : decide (x.ord = 0)
        · cases p3 : decide (x.ord = 1)
          · (simp only [SQ, SQB, zm, AOp.opds, step, Opd.get, bin, zc, IntKind.signed, zi, zj, zl, zb, unary, ze, zd, za, zo, zr, zh, zf, zg, zp, Cp.isFull, isNil, zq, simprocAttr, SQX, V.cells, hk, hl.len, zC, str_eq, zn (hb _ _), zn (hn1 _ _), p2, p3, e1, e3, zE, Bool.and_false, Bool.false_and, Bool.or_false, Bool.false_or, Bool.true_or, Bool.or_true]) <;> first | done | (simp; done) | (simp; omega) | omega
          · (simp only [SQ, SQB, zm, AOp.opds, step, Opd.get, bin, zc, IntKind.signed, zi, zj, zl, zb, unary, ze, zd, za, zo, zr, zh, zf, zg, zp, Cp.isFull, isNil, zq, simprocAttr, SQX, V.cells, hk, hl.len, zC, str_eq, zn (hb _ _), zn (hn1 _ _), p2, p3, e1, e3, zE, Bool.and_false, Bool.false_and, Bool.or_false, Bool.false_or, Bool.true_or, Bool.or_true]) <;> first | done | (simp; done) | (simp; omega) | omega
        · cases p3 : decide (x.ord = 1)
          · (simp only [SQ, SQB, zm, AOp.opds, step, Opd.get, bin, zc, IntKind.signed, zi, zj, zl, zb, unary, ze, zd, za, zo, zr, zh, zf, zg, zp, Cp.isFull, isNil, zq, simprocAttr, SQX, V.cells, hk, hl.len, zC, str_eq, zn (hb _ _), zn (hn1 _ _), p2, p3, e1, e3, zE, Bool.and_false, Bool.false_and, Bool.or_false, Bool.false_or, Bool.true_or, Bool.or_true]) <;> first | done | (simp; done) | (simp; omega) | omega
          · (simp only [SQ, SQB, zm, AOp.opds, step, Opd.get, bin, zc, IntKind.signed, zi, zj, zl, zb, unary, ze, zd, za, zo, zr, zh, zf, zg, zp, Cp.isFull, isNil, zq, simprocAttr, SQX, V.cells, hk, hl.len, zC, str_eq, zn (hb _ _), zn (hn1 _ _), p2, p3, e1, e3, zE, Bool.and_false, Bool.false_and, Bool.or_false, Bool.false_or, Bool.true_or, Bool.or_true]) <;> first | done | (simp; done) | (simp; omega) | omega
  by_cases hk : x.kind = 11
  · have hb := fun base h => blank_r (base := base) hv ⟨#[83, 79, 76]⟩ true false false true true h (by decide) (by decide) (by decide) (by decide) (by decide) (by decide)
    have he : okK zA 8 19 x = mayN zA x := by simp [okK, hk]
    rw [he, mayN_11 hk]
    rw [hk] at hb e1
    generalize hA : blankB zA true false false true true x = A at hb
    have he1 := fun base h => exprs_r (base := base) hl 1 h hE
    generalize hX1 : (decide ((x.l.length : Int) = 1) && allN zA 20 24 x.l) = X1 at he1
    have hY1 : (decide (x.l.length = 1) && allN zA 20 24 x.l) = X1 := by rw [← hX1]; congr 1; rw [decide_eq_decide]; omega
    rw [hY1]
    rw [Bool.decide_or]
    cases A
    · (simp only [SQ, SQB, zm, AOp.opds, step, Opd.get, bin, zc, IntKind.signed, zi, zj, zl, zb, unary, ze, zd, za, zo, zr, zh, zf, zg, zp, Cp.isFull, isNil, zq, simprocAttr, SQX, V.cells, hk, hl.len, zC, str_eq, zn (hb _ _), zn (he1 _ _), e1, e3, zE, Bool.and_false, Bool.false_and, Bool.or_false, Bool.false_or, Bool.true_or, Bool.or_true]) <;> first | done | (simp; done) | (simp; omega) | omega
    · cases X1
      · (simp only [SQ, SQB, zm, AOp.opds, step, Opd.get, bin, zc, IntKind.signed, zi, zj, zl, zb, unary, ze, zd, za, zo, zr, zh, zf, zg, zp, Cp.isFull, isNil, zq, simprocAttr, SQX, V.cells, hk, hl.len, zC, str_eq, zn (hb _ _), zn (he1 _ _), e1, e3, zE, Bool.and_false, Bool.false_and, Bool.or_false, Bool.false_or, Bool.true_or, Bool.or_true]) <;> first | done | (simp; done) | (simp; omega) | omega
      · cases p2 : decide (x.ord = 0)
        · cases p3 : decide (x.ord = 2)
          · (simp only [SQ, SQB, zm, AOp.opds, step, Opd.get, bin, zc, IntKind.signed, zi, zj, zl, zb, unary, ze, zd, za, zo, zr, zh, zf, zg, zp, Cp.isFull, isNil, zq, simprocAttr, SQX, V.cells, hk, hl.len, zC, str_eq, zn (hb _ _), zn (he1 _ _), p2, p3, e1, e3, zE, Bool.and_false, Bool.false_and, Bool.or_false, Bool.false_or, Bool.true_or, Bool.or_true]) <;> first | done | (simp; done) | (simp; omega) | omega
          · (simp only [SQ, SQB, zm, AOp.opds, step, Opd.get, bin, zc, IntKind.signed, zi, zj, zl, zb, unary, ze, zd, za, zo, zr, zh, zf, zg, zp, Cp.isFull, isNil, zq, simprocAttr, SQX, V.cells, hk, hl.len, zC, str_eq, zn (hb _ _), zn (he1 _ _), p2, p3, e1, e3, zE, Bool.and_false, Bool.false_and, Bool.or_false, Bool.false_or, Bool.true_or, Bool.or_true]) <;> first | done | (simp; done) | (simp; omega) | omega
        · cases p3 : decide (x.ord = 2)
          · (simp only [SQ, SQB, zm, AOp.opds, step, Opd.get, bin, zc, IntKind.signed, zi, zj, zl, zb, unary, ze, zd, za, zo, zr, zh, zf, zg, zp, Cp.isFull, isNil, zq, simprocAttr, SQX, V.cells, hk, hl.len, zC, str_eq, zn (hb _ _), zn (he1 _ _), p2, p3, e1, e3, zE, Bool.and_false, Bool.false_and, Bool.or_false, Bool.false_or, Bool.true_or, Bool.or_true]) <;> first | done | (simp; done) | (simp; omega) | omega
          · (simp only [SQ, SQB, zm, AOp.opds, step, Opd.get, bin, zc, IntKind.signed, zi, zj, zl, zb, unary, ze, zd, za, zo, zr, zh, zf, zg, zp, Cp.isFull, isNil, zq, simprocAttr, SQX, V.cells, hk, hl.len, zC, str_eq, zn (hb _ _), zn (he1 _ _), p2, p3, e1, e3, zE, Bool.and_false, Bool.false_and, Bool.or_false, Bool.false_or, Bool.true_or, Bool.or_true]) <;> first | done | (simp; done) | (simp; omega) | omega
  by_cases hk : x.kind = 12
  · have hb := fun base h => blank_r (base := base) hv ⟨#[83, 84, 78, 79, 76]⟩ true true true true true h (by decide) (by decide) (by decide) (by decide) (by decide) (by decide)
    have he : okK zA 8 19 x = mayN zA x := by simp [okK, hk]
    rw [he, mayN_12 hk]
    rw [hk] at hb e1
    generalize hA : blankB zA true true true true true x = A at hb
    have hn1 := fun base h => refName_r (base := base) x.t h
    generalize hT1 : zA x.t = N1 at hn1
    have he4 := fun base h => exprs_r (base := base) hl 1 h hE
    generalize hX4 : (decide ((x.l.length : Int) = 1) && allN zA 20 24 x.l) = X4 at he4
    have hY4 : (decide (x.l.length = 1) && allN zA 20 24 x.l) = X4 := by rw [← hX4]; congr 1; rw [decide_eq_decide]; omega
    rw [hY4]
    cases A
    · (simp only [SQ, SQB, zm, AOp.opds, step, Opd.get, bin, zc, IntKind.signed, zi, zj, zl, zb, unary, ze, zd, za, zo, zr, zh, zf, zg, zp, Cp.isFull, isNil, zq, simprocAttr, SQX, V.cells, hk, hl.len, zC, str_eq, zn (hb _ _), zn (hn1 _ _), zn (he4 _ _), e1, e3, zE, Bool.and_false, Bool.false_and, Bool.or_false, Bool.false_or, Bool.true_or, Bool.or_true]) <;> first | done | (simp; done) | (simp; omega) | omega
    · cases N1
      · (simp only [SQ, SQB, zm, AOp.opds, step, Opd.get, bin, zc, IntKind.signed, zi, zj, zl, zb, unary, ze, zd, za, zo, zr, zh, zf, zg, zp, Cp.isFull, isNil, zq, simprocAttr, SQX, V.cells, hk, hl.len, zC, str_eq, zn (hb _ _), zn (hn1 _ _), zn (he4 _ _), e1, e3, zE, Bool.and_false, Bool.false_and, Bool.or_false, Bool.false_or, Bool.true_or, Bool.or_true]) <;> first | done | (simp; done) | (simp; omega) | omega
      · by_cases p2 : 1 ≤ x.n
        · by_cases p3 : x.n ≤ 7
          · cases X4
            · (simp only [SQ, SQB, zm, AOp.opds, step, Opd.get, bin, zc, IntKind.signed, zi, zj, zl, zb, unary, ze, zd, za, zo, zr, zh, zf, zg, zp, Cp.isFull, isNil, zq, simprocAttr, SQX, V.cells, hk, hl.len, zC, str_eq, zn (hb _ _), zn (hn1 _ _), zn (he4 _ _), p2, p3, e1, e3, zE, Bool.and_false, Bool.false_and, Bool.or_false, Bool.false_or, Bool.true_or, Bool.or_true]) <;> first | done | (simp; done) | (simp; omega) | omega
            · by_cases p5 : 0 ≤ x.ord
              · by_cases p6 : x.ord ≤ 3
                · (simp only [SQ, SQB, zm, AOp.opds, step, Opd.get, bin, zc, IntKind.signed, zi, zj, zl, zb, unary, ze, zd, za, zo, zr, zh, zf, zg, zp, Cp.isFull, isNil, zq, simprocAttr, SQX, V.cells, hk, hl.len, zC, str_eq, zn (hb _ _), zn (hn1 _ _), zn (he4 _ _), p2, p3, p5, p6, e1, e3, zE, Bool.and_false, Bool.false_and, Bool.or_false, Bool.false_or, Bool.true_or, Bool.or_true]) <;> first | done | (simp; done) | (simp; omega) | omega
                · (simp only [SQ, SQB, zm, AOp.opds, step, Opd.get, bin, zc, IntKind.signed, zi, zj, zl, zb, unary, ze, zd, za, zo, zr, zh, zf, zg, zp, Cp.isFull, isNil, zq, simprocAttr, SQX, V.cells, hk, hl.len, zC, str_eq, zn (hb _ _), zn (hn1 _ _), zn (he4 _ _), p2, p3, p5, p6, e1, e3, zE, Bool.and_false, Bool.false_and, Bool.or_false, Bool.false_or, Bool.true_or, Bool.or_true]) <;> first | done | (simp; done) | (simp; omega) | omega
              · (simp only [SQ, SQB, zm, AOp.opds, step, Opd.get, bin, zc, IntKind.signed, zi, zj, zl, zb, unary, ze, zd, za, zo, zr, zh, zf, zg, zp, Cp.isFull, isNil, zq, simprocAttr, SQX, V.cells, hk, hl.len, zC, str_eq, zn (hb _ _), zn (hn1 _ _), zn (he4 _ _), p2, p3, p5, e1, e3, zE, Bool.and_false, Bool.false_and, Bool.or_false, Bool.false_or, Bool.true_or, Bool.or_true]) <;> first | done | (simp; done) | (simp; omega) | omega
          · (simp only [SQ, SQB, zm, AOp.opds, step, Opd.get, bin, zc, IntKind.signed, zi, zj, zl, zb, unary, ze, zd, za, zo, zr, zh, zf, zg, zp, Cp.isFull, isNil, zq, simprocAttr, SQX, V.cells, hk, hl.len, zC, str_eq, zn (hb _ _), zn (hn1 _ _), zn (he4 _ _), p2, p3, e1, e3, zE, Bool.and_false, Bool.false_and, Bool.or_false, Bool.false_or, Bool.true_or, Bool.or_true]) <;> first | done | (simp; done) | (simp; omega) | omega
        · (simp only [SQ, SQB, zm, AOp.opds, step, Opd.get, bin, zc, IntKind.signed, zi, zj, zl, zb, unary, ze, zd, za, zo, zr, zh, zf, zg, zp, Cp.isFull, isNil, zq, simprocAttr, SQX, V.cells, hk, hl.len, zC, str_eq, zn (hb _ _), zn (hn1 _ _), zn (he4 _ _), p2, e1, e3, zE, Bool.and_false, Bool.false_and, Bool.or_false, Bool.false_or, Bool.true_or, Bool.or_true]) <;> first | done | (simp; done) | (simp; omega) | omega
  by_cases hk : x.kind = 13
  · have hb := fun base h => blank_r (base := base) hv ⟨#[83, 84, 79, 76]⟩ true true false true true h (by decide) (by decide) (by decide) (by decide) (by decide) (by decide)
    have he : okK zA 8 19 x = mayN zA x := by simp [okK, hk]
    rw [he, mayN_13 hk]
    rw [hk] at hb e1
    generalize hA : blankB zA true true false true true x = A at hb
    have hn1 := fun base h => refName_r (base := base) x.t h
    generalize hT1 : zA x.t = N1 at hn1
    have he2 := fun base h => exprs_r (base := base) hl 2 h hE
    generalize hX2 : (decide ((x.l.length : Int) = 2) && allN zA 20 24 x.l) = X2 at he2
    have hY2 : (decide (x.l.length = 2) && allN zA 20 24 x.l) = X2 := by rw [← hX2]; congr 1; rw [decide_eq_decide]; omega
    rw [hY2]
    cases A
    · (simp only [SQ, SQB, zm, AOp.opds, step, Opd.get, bin, zc, IntKind.signed, zi, zj, zl, zb, unary, ze, zd, za, zo, zr, zh, zf, zg, zp, Cp.isFull, isNil, zq, simprocAttr, SQX, V.cells, hk, hl.len, zC, str_eq, zn (hb _ _), zn (hn1 _ _), zn (he2 _ _), e1, e3, zE, Bool.and_false, Bool.false_and, Bool.or_false, Bool.false_or, Bool.true_or, Bool.or_true]) <;> first | done | (simp; done) | (simp; omega) | omega
    · cases N1
      · (simp only [SQ, SQB, zm, AOp.opds, step, Opd.get, bin, zc, IntKind.signed, zi, zj, zl, zb, unary, ze, zd, za, zo, zr, zh, zf, zg, zp, Cp.isFull, isNil, zq, simprocAttr, SQX, V.cells, hk, hl.len, zC, str_eq, zn (hb _ _), zn (hn1 _ _), zn (he2 _ _), e1, e3, zE, Bool.and_false, Bool.false_and, Bool.or_false, Bool.false_or, Bool.true_or, Bool.or_true]) <;> first | done | (simp; done) | (simp; omega) | omega
      · cases X2
        · (simp only [SQ, SQB, zm, AOp.opds, step, Opd.get, bin, zc, IntKind.signed, zi, zj, zl, zb, unary, ze, zd, za, zo, zr, zh, zf, zg, zp, Cp.isFull, isNil, zq, simprocAttr, SQX, V.cells, hk, hl.len, zC, str_eq, zn (hb _ _), zn (hn1 _ _), zn (he2 _ _), e1, e3, zE, Bool.and_false, Bool.false_and, Bool.or_false, Bool.false_or, Bool.true_or, Bool.or_true]) <;> first | done | (simp; done) | (simp; omega) | omega
        · by_cases p3 : 0 ≤ x.ord
          · by_cases p4 : x.ord ≤ 3
            · (simp only [SQ, SQB, zm, AOp.opds, step, Opd.get, bin, zc, IntKind.signed, zi, zj, zl, zb, unary, ze, zd, za, zo, zr, zh, zf, zg, zp, Cp.isFull, isNil, zq, simprocAttr, SQX, V.cells, hk, hl.len, zC, str_eq, zn (hb _ _), zn (hn1 _ _), zn (he2 _ _), p3, p4, e1, e3, zE, Bool.and_false, Bool.false_and, Bool.or_false, Bool.false_or, Bool.true_or, Bool.or_true]) <;> first | done | (simp; done) | (simp; omega) | omega
            · (simp only [SQ, SQB, zm, AOp.opds, step, Opd.get, bin, zc, IntKind.signed, zi, zj, zl, zb, unary, ze, zd, za, zo, zr, zh, zf, zg, zp, Cp.isFull, isNil, zq, simprocAttr, SQX, V.cells, hk, hl.len, zC, str_eq, zn (hb _ _), zn (hn1 _ _), zn (he2 _ _), p3, p4, e1, e3, zE, Bool.and_false, Bool.false_and, Bool.or_false, Bool.false_or, Bool.true_or, Bool.or_true]) <;> first | done | (simp; done) | (simp; omega) | omega
          · (simp only [SQ, SQB, zm, AOp.opds, step, Opd.get, bin, zc, IntKind.signed, zi, zj, zl, zb, unary, ze, zd, za, zo, zr, zh, zf, zg, zp, Cp.isFull, isNil, zq, simprocAttr, SQX, V.cells, hk, hl.len, zC, str_eq, zn (hb _ _), zn (hn1 _ _), zn (he2 _ _), p3, e1, e3, zE, Bool.and_false, Bool.false_and, Bool.or_false, Bool.false_or, Bool.true_or, Bool.or_true]) <;> first | done | (simp; done) | (simp; omega) | omega
  by_cases hk : x.kind = 14
  · have hb := fun base h => blank_r (base := base) hv ⟨#[79]⟩ false false false true false h (by decide) (by decide) (by decide) (by decide) (by decide) (by decide)
    have he : okK zA 8 19 x = mayN zA x := by simp [okK, hk]
    rw [he, mayN_14 hk]
    rw [hk] at hb e1
    generalize hA : blankB zA false false false true false x = A at hb
    cases A
    · (simp only [SQ, SQB, zm, AOp.opds, step, Opd.get, bin, zc, IntKind.signed, zi, zj, zl, zb, unary, ze, zd, za, zo, zr, zh, zf, zg, zp, Cp.isFull, isNil, zq, simprocAttr, SQX, V.cells, hk, hl.len, zC, str_eq, zn (hb _ _), e1, e3, zE, Bool.and_false, Bool.false_and, Bool.or_false, Bool.false_or, Bool.true_or, Bool.or_true]) <;> first | done | (simp; done) | (simp; omega) | omega
    · by_cases p1 : 1 ≤ x.ord
      · by_cases p2 : x.ord ≤ 3
        · (simp only [SQ, SQB, zm, AOp.opds, step, Opd.get, bin, zc, IntKind.signed, zi, zj, zl, zb, unary, ze, zd, za, zo, zr, zh, zf, zg, zp, Cp.isFull, isNil, zq, simprocAttr, SQX, V.cells, hk, hl.len, zC, str_eq, zn (hb _ _), p1, p2, e1, e3, zE, Bool.and_false, Bool.false_and, Bool.or_false, Bool.false_or, Bool.true_or, Bool.or_true]) <;> first | done | (simp; done) | (simp; omega) | omega
        · (simp only [SQ, SQB, zm, AOp.opds, step, Opd.get, bin, zc, IntKind.signed, zi, zj, zl, zb, unary, ze, zd, za, zo, zr, zh, zf, zg, zp, Cp.isFull, isNil, zq, simprocAttr, SQX, V.cells, hk, hl.len, zC, str_eq, zn (hb _ _), p1, p2, e1, e3, zE, Bool.and_false, Bool.false_and, Bool.or_false, Bool.false_or, Bool.true_or, Bool.or_true]) <;> first | done | (simp; done) | (simp; omega) | omega
      · (simp only [SQ, SQB, zm, AOp.opds, step, Opd.get, bin, zc, IntKind.signed, zi, zj, zl, zb, unary, ze, zd, za, zo, zr, zh, zf, zg, zp, Cp.isFull, isNil, zq, simprocAttr, SQX, V.cells, hk, hl.len, zC, str_eq, zn (hb _ _), p1, e1, e3, zE, Bool.and_false, Bool.false_and, Bool.or_false, Bool.false_or, Bool.true_or, Bool.or_true]) <;> first | done | (simp; done) | (simp; omega) | omega
  by_cases hk : x.kind = 15
  · have hb := fun base h => blank_r (base := base) hv ⟨#[76]⟩ false false false false true h (by decide) (by decide) (by decide) (by decide) (by decide) (by decide)
    have he : okK zA 8 19 x = mayN zA x := by simp [okK, hk]
    rw [he, mayN_15 hk]
    rw [hk] at hb e1
    generalize hA : blankB zA false false false false true x = A at hb
    cases A
    · (simp only [SQ, SQB, zm, AOp.opds, step, Opd.get, bin, zc, IntKind.signed, zi, zj, zl, zb, unary, ze, zd, za, zo, zr, zh, zf, zg, zp, Cp.isFull, isNil, zq, simprocAttr, SQX, V.cells, hk, hl.len, zC, zn (hb _ _), e1, Bool.and_false, Bool.false_and]) <;> first | done | (simp; done)
    by_cases l2 : x.l.length = 2
    · skip
      obtain ⟨ex, r0, r1, a, b, rfl, hll, v0, v1⟩ := hl.two l2
      have ha := fun base h => hE a (by rw [hll]; simp) base _ h v0
      have hbb := fun base h => hB b (by rw [hll]; simp) base _ h v1
      obtain ⟨w0, rfl, _⟩ := v0.open
      obtain ⟨w1, rfl, _⟩ := v1.open
      rw [hll, head2]
      generalize okK zA 20 24 a = X0 at ha
      generalize okK zA 7 7 b = X1 at hbb
      cases X0 <;> cases X1 <;> (simp only [SQ, SQB, zm, AOp.opds, step, Opd.get, zk, bin, zc, IntKind.signed, zi, zj, zl, zb, unary, ze, zd, za, zo, zr, zh, zf, zg, zp, Cp.isFull, isNil, zq, simprocAttr, SQX, V.cells, hk, zC, zn (hb _ _), e1, Nat.reduceAdd, Int.cast_ofNat_Int, Int.reduceToNat, Int.toNat_zero, Int.toNat_one, Bool.and_false, Bool.false_and, zn (ha _ _), zn (hbb _ _), hll]) <;> first | done | (simp; done)
    · by_cases l3 : x.l.length = 3
      · skip
        obtain ⟨ex, r0, r1, r2, a, b, c, rfl, hll, v0, v1, v2⟩ := hl.three l3
        have ha := fun base h => hE a (by rw [hll]; simp) base _ h v0
        have hbb := fun base h => hB b (by rw [hll]; simp) base _ h v1
        have hcc := fun base h => hB c (by rw [hll]; simp) base _ h v2
        obtain ⟨w0, rfl, _⟩ := v0.open
        obtain ⟨w1, rfl, _⟩ := v1.open
        obtain ⟨w2, rfl, _⟩ := v2.open
        rw [hll, head3]
        generalize okK zA 20 24 a = X0 at ha
        generalize okK zA 7 7 b = X1 at hbb
        generalize okK zA 7 7 c = X2 at hcc
        cases X0 <;> cases X1 <;> cases X2 <;> (simp only [SQ, SQB, zm, AOp.opds, step, Opd.get, zk, bin, zc, IntKind.signed, zi, zj, zl, zb, unary, ze, zd, za, zo, zr, zh, zf, zg, zp, Cp.isFull, isNil, zq, simprocAttr, SQX, V.cells, hk, zC, zn (hb _ _), e1, Nat.reduceAdd, Int.cast_ofNat_Int, Int.reduceToNat, Int.toNat_zero, Int.toNat_one, Bool.and_false, Bool.false_and, zn (ha _ _), zn (hbb _ _), zn (hcc _ _), hll]) <;> first | done | (simp; done)
      · have n2 : ¬ (x.l.length : Int) = 2 := by omega
        have n3 : ¬ (x.l.length : Int) = 3 := by omega
        (simp only [SQ, SQB, zm, AOp.opds, step, Opd.get, bin, zc, IntKind.signed, zi, zj, zl, zb, unary, ze, zd, za, zo, zr, zh, zf, zg, zp, Cp.isFull, isNil, zq, simprocAttr, SQX, V.cells, hk, hl.len, zC, zn (hb _ _), e1, Bool.and_false, Bool.false_and, n2, n3, l2, l3, or_self, decide_false]) <;> first | done | (simp; done)
  by_cases hk : x.kind = 16
  · have hb := fun base h => blank_r (base := base) hv ⟨#[76]⟩ false false false false true h (by decide) (by decide) (by decide) (by decide) (by decide) (by decide)
    have he : okK zA 8 19 x = mayN zA x := by simp [okK, hk]
    rw [he, mayN_16 hk]
    rw [hk] at hb e1
    generalize hA : blankB zA false false false false true x = A at hb
    cases A
    · (simp only [SQ, SQB, zm, AOp.opds, step, Opd.get, bin, zc, IntKind.signed, zi, zj, zl, zb, unary, ze, zd, za, zo, zr, zh, zf, zg, zp, Cp.isFull, isNil, zq, simprocAttr, SQX, V.cells, hk, hl.len, zC, zn (hb _ _), e1, Bool.and_false, Bool.false_and]) <;> first | done | (simp; done)
    by_cases l2 : x.l.length = 2
    · skip
      obtain ⟨ex, r0, r1, a, b, rfl, hll, v0, v1⟩ := hl.two l2
      have ha := fun base h => hE a (by rw [hll]; simp) base _ h v0
      have hbb := fun base h => hB b (by rw [hll]; simp) base _ h v1
      obtain ⟨w0, rfl, _⟩ := v0.open
      obtain ⟨w1, rfl, _⟩ := v1.open
      rw [hll, head2]
      generalize okK zA 20 24 a = X0 at ha
      generalize okK zA 7 7 b = X1 at hbb
      cases X0 <;> cases X1 <;> (simp only [SQ, SQB, zm, AOp.opds, step, Opd.get, zk, bin, zc, IntKind.signed, zi, zj, zl, zb, unary, ze, zd, za, zo, zr, zh, zf, zg, zp, Cp.isFull, isNil, zq, simprocAttr, SQX, V.cells, hk, zC, zn (hb _ _), e1, Nat.reduceAdd, Int.cast_ofNat_Int, Int.reduceToNat, Int.toNat_zero, Int.toNat_one, Bool.and_false, Bool.false_and, zn (ha _ _), zn (hbb _ _), hll]) <;> first | done | (simp; done)
    · have n2 : ¬ (x.l.length : Int) = 2 := by omega
      (simp only [SQ, SQB, zm, AOp.opds, step, Opd.get, bin, zc, IntKind.signed, zi, zj, zl, zb, unary, ze, zd, za, zo, zr, zh, zf, zg, zp, Cp.isFull, isNil, zq, simprocAttr, SQX, V.cells, hk, hl.len, zC, zn (hb _ _), e1, Bool.and_false, Bool.false_and, n2, l2, decide_false]) <;> first | done | (simp; done)
  by_cases hk : x.kind = 17
  · have hb := fun base h => blank_r (base := base) hv ⟨#[76]⟩ false false false false true h (by decide) (by decide) (by decide) (by decide) (by decide) (by decide)
    have he : okK zA 8 19 x = mayN zA x := by simp [okK, hk]
    rw [he, mayN_17 hk]
    rw [hk] at hb e1
    generalize hA : blankB zA false false false false true x = A at hb
    have he1 := fun base h => exprs_r (base := base) hl 1 h hE
    generalize hX1 : (decide ((x.l.length : Int) = 1) && allN zA 20 24 x.l) = X1 at he1
    have hY1 : (decide (x.l.length = 1) && allN zA 20 24 x.l) = X1 := by rw [← hX1]; congr 1; rw [decide_eq_decide]; omega
    rw [hY1]
    cases A
    · (simp only [SQ, SQB, zm, AOp.opds, step, Opd.get, bin, zc, IntKind.signed, zi, zj, zl, zb, unary, ze, zd, za, zo, zr, zh, zf, zg, zp, Cp.isFull, isNil, zq, simprocAttr, SQX, V.cells, hk, hl.len, zC, str_eq, zn (hb _ _), zn (he1 _ _), e1, e3, zE, Bool.and_false, Bool.false_and, Bool.or_false, Bool.false_or, Bool.true_or, Bool.or_true]) <;> first | done | (simp; done) | (simp; omega) | omega
    · cases X1
      · (simp only [SQ, SQB, zm, AOp.opds, step, Opd.get, bin, zc, IntKind.signed, zi, zj, zl, zb, unary, ze, zd, za, zo, zr, zh, zf, zg, zp, Cp.isFull, isNil, zq, simprocAttr, SQX, V.cells, hk, hl.len, zC, str_eq, zn (hb _ _), zn (he1 _ _), e1, e3, zE, Bool.and_false, Bool.false_and, Bool.or_false, Bool.false_or, Bool.true_or, Bool.or_true]) <;> first | done | (simp; done) | (simp; omega) | omega
      · (simp only [SQ, SQB, zm, AOp.opds, step, Opd.get, bin, zc, IntKind.signed, zi, zj, zl, zb, unary, ze, zd, za, zo, zr, zh, zf, zg, zp, Cp.isFull, isNil, zq, simprocAttr, SQX, V.cells, hk, hl.len, zC, str_eq, zn (hb _ _), zn (he1 _ _), e1, e3, zE, Bool.and_false, Bool.false_and, Bool.or_false, Bool.false_or, Bool.true_or, Bool.or_true]) <;> first | done | (simp; done) | (simp; omega) | omega
  by_cases hk : x.kind = 18
  · have hb := fun base h => blank_r (base := base) hv ⟨#[83, 84, 76]⟩ true true false false true h (by decide) (by decide) (by decide) (by decide) (by decide) (by decide)
    have he : okK zA 8 19 x = mayN zA x := by simp [okK, hk]
    rw [he, mayN_18 hk]
    rw [hk] at hb e1
    generalize hA : blankB zA true true false false true x = A at hb
    have hn1 := fun base h => refName_r (base := base) x.t h
    generalize hT1 : zA x.t = N1 at hn1
    have he2 := fun base h => exprs_r (base := base) hl (x.l.length : Int) h hE
    generalize hX2 : (decide ((x.l.length : Int) = (x.l.length : Int)) && allN zA 20 24 x.l) = X2 at he2
    have hY2 : allN zA 20 24 x.l = X2 := by rw [← hX2]; simp
    rw [hY2]
    cases A
    · (simp only [SQ, SQB, zm, AOp.opds, step, Opd.get, bin, zc, IntKind.signed, zi, zj, zl, zb, unary, ze, zd, za, zo, zr, zh, zf, zg, zp, Cp.isFull, isNil, zq, simprocAttr, SQX, V.cells, hk, hl.len, zC, str_eq, zn (hb _ _), zn (hn1 _ _), zn (he2 _ _), e1, e3, zE, Bool.and_false, Bool.false_and, Bool.or_false, Bool.false_or, Bool.true_or, Bool.or_true]) <;> first | done | (simp; done) | (simp; omega) | omega
    · cases N1
      · (simp only [SQ, SQB, zm, AOp.opds, step, Opd.get, bin, zc, IntKind.signed, zi, zj, zl, zb, unary, ze, zd, za, zo, zr, zh, zf, zg, zp, Cp.isFull, isNil, zq, simprocAttr, SQX, V.cells, hk, hl.len, zC, str_eq, zn (hb _ _), zn (hn1 _ _), zn (he2 _ _), e1, e3, zE, Bool.and_false, Bool.false_and, Bool.or_false, Bool.false_or, Bool.true_or, Bool.or_true]) <;> first | done | (simp; done) | (simp; omega) | omega
      · cases X2
        · (simp only [SQ, SQB, zm, AOp.opds, step, Opd.get, bin, zc, IntKind.signed, zi, zj, zl, zb, unary, ze, zd, za, zo, zr, zh, zf, zg, zp, Cp.isFull, isNil, zq, simprocAttr, SQX, V.cells, hk, hl.len, zC, str_eq, zn (hb _ _), zn (hn1 _ _), zn (he2 _ _), e1, e3, zE, Bool.and_false, Bool.false_and, Bool.or_false, Bool.false_or, Bool.true_or, Bool.or_true]) <;> first | done | (simp; done) | (simp; omega) | omega
        · (simp only [SQ, SQB, zm, AOp.opds, step, Opd.get, bin, zc, IntKind.signed, zi, zj, zl, zb, unary, ze, zd, za, zo, zr, zh, zf, zg, zp, Cp.isFull, isNil, zq, simprocAttr, SQX, V.cells, hk, hl.len, zC, str_eq, zn (hb _ _), zn (hn1 _ _), zn (he2 _ _), e1, e3, zE, Bool.and_false, Bool.false_and, Bool.or_false, Bool.false_or, Bool.true_or, Bool.or_true]) <;> first | done | (simp; done) | (simp; omega) | omega
  by_cases hk : x.kind = 19
  · have hb := fun base h => blank_r (base := base) hv ⟨#[]⟩ false false false false false h (by decide) (by decide) (by decide) (by decide) (by decide) (by decide)
    have he : okK zA 8 19 x = mayN zA x := by simp [okK, hk]
    rw [he, mayN_19 hk]
    rw [hk] at hb e1
    generalize hA : blankB zA false false false false false x = A at hb
    cases A
    · (simp only [SQ, SQB, zm, AOp.opds, step, Opd.get, bin, zc, IntKind.signed, zi, zj, zl, zb, unary, ze, zd, za, zo, zr, zh, zf, zg, zp, Cp.isFull, isNil, zq, simprocAttr, SQX, V.cells, hk, hl.len, zC, str_eq, zn (hb _ _), e1, e3, zE, Bool.and_false, Bool.false_and, Bool.or_false, Bool.false_or, Bool.true_or, Bool.or_true]) <;> first | done | (simp; done) | (simp; omega) | omega
    · (simp only [SQ, SQB, zm, AOp.opds, step, Opd.get, bin, zc, IntKind.signed, zi, zj, zl, zb, unary, ze, zd, za, zo, zr, zh, zf, zg, zp, Cp.isFull, isNil, zq, simprocAttr, SQX, V.cells, hk, hl.len, zC, str_eq, zn (hb _ _), e1, e3, zE, Bool.and_false, Bool.false_and, Bool.or_false, Bool.false_or, Bool.true_or, Bool.or_true]) <;> first | done | (simp; done) | (simp; omega) | omega
  have he : okK zA 8 19 x = false := by
    unfold okK
    rw [decide_eq_false (by omega)]
    rfl
  rw [he]
  simp only [SQ, SQB, zm, AOp.opds, step, Opd.get, zk, bin, zc, IntKind.signed, zi, zj, zl, zb, unary, ze, zd, za, zo, zr, zh, zf, zg, zp, Cp.isFull, isNil, zq, simprocAttr, SQX, V.cells, e1, *]
end
section
abbrev ndC (x : Nd) (lv : V) : List V := [.sc (.int .i64 x.kind), .sc (.string x.s), .sc (.string x.t), .sc (.int .i64 x.n), .sc (.int .i64 x.ord), .sc (.int .i64 x.line), lv]
def ItemOk (x : Nd) : Prop := ∀ (base : Nat) (cs : List V) (h : Heap), NdV x cs → WpF S0 base k_spinnakerref23_item [.agg cs] h fun v h' => v = .bool (okK zA 2 4 x) ∧ h' = h
def declB (k : Int) (y : Nd) : Bool := (decide (y.kind = 5) && blankB zA true false false false false y) || (decide (y.kind = 6) && (blankB zA true false true false false y && decide (0 ≤ y.n)) && decide (k = 4))
theorem decl_3 {y : Nd} : declB 3 y = okK zA 5 5 y := by
  unfold declB okK
  by_cases h : y.kind = 5
  · rw [mayN_5 h]; simp [h]
  · have : ¬ (5 ≤ y.kind ∧ y.kind ≤ 5) := by omega
    simp [h, this]
theorem decl_4 {y : Nd} : declB 4 y = okK zA 5 6 y := by
  unfold declB okK
  by_cases h : y.kind = 5
  · rw [mayN_5 h]; simp [h]
  · by_cases h6 : y.kind = 6
    · rw [mayN_6 h6]; simp [h6]
    · have : ¬ (5 ≤ y.kind ∧ y.kind ≤ 6) := by omega
      simp [h, h6, this]
def itemTail : ACode := match f_spinnakerref23_item.body with
  | .seq _ (.seq _ c) => c
  | _ => .fail
theorem body_item : f_spinnakerref23_item.body = .seq (match f_spinnakerref23_item.body with | .seq a _ => a | _ => .fail) (.seq (match f_spinnakerref23_item.body with | .seq _ (.seq a _) => a | _ => .fail) itemTail) := rfl
set_option maxHeartbeats 2000000 in
theorem tail_r {base : Nat} {x : Nd} {lv : V} {h : Heap} {en : Env} {Q : Ex → Env → Heap → Prop} (hl : LV lv x.l) (e1 : en 1 = .eptr (ndC x lv) 0) (ini : List Nd) (z : Nd) (hx : x.l = ini ++ [z])
    (hQ : ∀ en', en' 2 = .bool (ini.all (declB x.kind) && okK zA 7 7 z) → Q .ret en' h) : WpC S0 base itemTail en h Q := by
  have hlen : x.l.length = ini.length + 1 := by rw [hx]; simp
  have ll := hl.len
  have lt := hl.lt
  have w : IntKind.wrap .i64 ((x.l.length : Int) - 1) = (ini.length : Int) := by rw [wrap_i64 (by omega) (by omega)]; omega
  simp only [itemTail, f_spinnakerref23_item]
  simp only [SQ, SQB, zm, AOp.opds, step, Opd.get, bin, zc, IntKind.signed, zi, zj, zl, zb, unary, ze, zd, za, zo, zr, zh, zf, zg, zp, Cp.isFull, isNil, zq, simprocAttr, SQX, V.cells, e1, ll, w]
  refine WpC_loopI (fun k en h' => ∃ i : Nat, k = ini.length - i ∧ i ≤ ini.length ∧ en 4 = V.int i ∧ en 1 = .eptr (ndC x lv) 0 ∧ en 3 = V.int ini.length ∧ (ini.take i).all (declB x.kind) = true ∧ h' = h) ini.length ⟨0, rfl, Nat.zero_le _, rfl, e1, rfl, rfl, rfl⟩ ?_
  clear e1
  rintro k en h' ⟨i, rfl, hi, e4, e1, e3, hall, rfl⟩
  by_cases h1 : i < ini.length
  · obtain ⟨r, hr1, hr2⟩ := hl.get (i := i) (by omega)
    have hxi : x.l[i] = ini[i] := by simp [hx, h1]
    rw [hxi] at hr2
    obtain ⟨lv2, rfl, hl2⟩ := hr2.open
    generalize hy : ini[i] = y at hr2 hl2 hr1
    have wi : IntKind.wrap .i64 ((i : Int) + 1) = ((i + 1 : Nat) : Int) := by rw [wrap_i64 (by omega) (by omega)]; rfl
    have hb1 := fun base h => blank_r (base := base) hr2 ⟨#[83]⟩ true false false false false h (by decide) (by decide) (by decide) (by decide) (by decide) (by decide)
    have hb2 := fun base h => blank_r (base := base) hr2 ⟨#[83, 78]⟩ true false true false false h (by decide) (by decide) (by decide) (by decide) (by decide) (by decide)
    have hd : declB x.kind ini[i] = ((decide (y.kind = 5) && blankB zA true false false false false y) || (decide (y.kind = 6) && (blankB zA true false true false false y && decide (0 ≤ y.n)) && decide (x.kind = 4))) := by rw [hy]; rfl
    generalize blankB zA true false false false false y = B1 at hb1 hd
    generalize blankB zA true false true false false y = B2 at hb2 hd
    have bad : declB x.kind ini[i] = false → (ini.all (declB x.kind) && okK zA 7 7 z) = false := fun hd => by rw [all_not h1 hd]; rfl
    have good : declB x.kind ini[i] = true → ∃ j, j < ini.length - i ∧ ∃ i_1, j = ini.length - i_1 ∧ i_1 ≤ ini.length ∧ V.sc (.int .i64 ((i + 1 : Nat) : Int)) = V.int i_1 ∧ (ini.take i_1).all (declB x.kind) = true := fun hd =>
      ⟨ini.length - (i + 1), by omega, i + 1, rfl, by omega, rfl, take_all h1 hall hd⟩
    by_cases k5 : y.kind = 5
    · have n6 : ¬ y.kind = 6 := by omega
      rw [k5] at hb1 hb2 hr1
      cases B1
      · simp only [SQ, SQB, zm, AOp.opds, step, Opd.get, bin, zc, IntKind.signed, zj, zl, zb, unary, ze, zd, za, zo, zr, zh, zf, zg, zp, Cp.isFull, isNil, zq, simprocAttr, SQX, V.cells, e4, e1, e3, h1, hr1, hl2.gr, zC, zn (hb1 _ _)]
        refine hQ _ ?_
        rw [bad (by rw [hd]; simp [n6])]
        rfl
      · simp only [SQ, SQB, zm, AOp.opds, step, Opd.get, bin, zc, IntKind.signed, zj, zl, zb, unary, ze, zd, za, zo, zr, zh, zf, zg, zp, Cp.isFull, isNil, zq, simprocAttr, SQX, V.cells, e4, e1, e3, h1, hr1, hl2.gr, zC, zn (hb1 _ _), wi]
        exact good (by rw [hd]; simp [k5])
    · by_cases k6 : y.kind = 6
      · rw [k6] at hb1 hb2 hr1
        cases B2
        · simp only [SQ, SQB, zm, AOp.opds, step, Opd.get, bin, zc, IntKind.signed, zj, zl, zb, unary, ze, zd, za, zo, zr, zh, zf, zg, zp, Cp.isFull, isNil, zq, simprocAttr, SQX, V.cells, e4, e1, e3, h1, hr1, hl2.gr, zC, zn (hb2 _ _)]
          refine hQ _ ?_
          rw [bad (by rw [hd]; simp [k5])]
          rfl
        · by_cases hn : 0 ≤ y.n
          · by_cases k4 : x.kind = 4
            · simp only [SQ, SQB, zm, AOp.opds, step, Opd.get, bin, zc, IntKind.signed, zj, zl, zb, unary, ze, zd, za, zo, zr, zh, zf, zg, zp, Cp.isFull, isNil, zq, simprocAttr, SQX, V.cells, e4, e1, e3, h1, hr1, hl2.gr, zC, zn (hb2 _ _), hn, k4, wi]
              rw [← k4]
              exact good (by rw [hd]; simp [k6, hn, k4])
            · simp only [SQ, SQB, zm, AOp.opds, step, Opd.get, bin, zc, IntKind.signed, zj, zl, zb, unary, ze, zd, za, zo, zr, zh, zf, zg, zp, Cp.isFull, isNil, zq, simprocAttr, SQX, V.cells, e4, e1, e3, h1, hr1, hl2.gr, zC, zn (hb2 _ _), hn, k4]
              refine hQ _ ?_
              rw [bad (by rw [hd]; simp [k5, k4])]
              rfl
          · simp only [SQ, SQB, zm, AOp.opds, step, Opd.get, bin, zc, IntKind.signed, zj, zl, zb, unary, ze, zd, za, zo, zr, zh, zf, zg, zp, Cp.isFull, isNil, zq, simprocAttr, SQX, V.cells, e4, e1, e3, h1, hr1, hl2.gr, zC, zn (hb2 _ _), hn]
            refine hQ _ ?_
            rw [bad (by rw [hd]; simp [k5, hn])]
            rfl
      · simp only [SQ, SQB, zm, AOp.opds, step, Opd.get, bin, zc, IntKind.signed, zj, zl, zb, unary, ze, zd, za, zo, zr, zh, zf, zg, zp, Cp.isFull, isNil, zq, simprocAttr, SQX, V.cells, e4, e1, e3, h1, hr1, hl2.gr, zC, k5, k6]
        refine hQ _ ?_
        rw [bad (by rw [hd]; simp [k5, k6])]
        rfl
  · have hii : i = ini.length := by omega
    subst hii
    rw [List.take_length] at hall
    obtain ⟨r, hr1, hr2⟩ := hl.get (i := ini.length) (by omega)
    have hxi : x.l[ini.length] = z := by simp [hx]
    rw [hxi] at hr2
    obtain ⟨lv2, rfl, hl2⟩ := hr2.open
    have hbk := fun base h => block_of (fun y _ => stmt_r _ y (Nat.le_refl _)) base _ h hr2
    simp only [SQ, SQB, zm, AOp.opds, step, Opd.get, bin, zc, IntKind.signed, zj, zl, zb, unary, ze, zd, za, zo, zr, zh, zf, zg, zp, Cp.isFull, isNil, zq, simprocAttr, SQX, V.cells, e4, e1, e3, h1, hr1, zC, zn (hbk _ _)]
    refine hQ _ ?_
    rw [hall]
    rfl
end
end Go.Am
