/- The abstract machine and what is proved in it, part 11. -/
import Derived.Test.YtjjgpjlfnendaaaDoorAm10
set_option linter.unusedVariables false
section
/- Am: the reference's statements. -/
set_option linter.unusedSimpArgs false
namespace Go.Am
theorem LV.two {lv : V} {l : List Nd} (h : LV lv l) (h2 : l.length = 2) : ∃ ex r0 r1 a b, lv = .slc ex 7 [r0, r1] ∧ l = [a, b] ∧ NdV a r0 ∧ NdV b r1 := by
  rcases h with ⟨_, rfl⟩ | ⟨ex, rows, rfl, h, _⟩
  · simp at h2
  · match l, h2 with
    | [a, b], _ =>
      simp only [NdR] at h
      obtain ⟨r0, _, rfl, q0, r1, _, rfl, q1, rfl⟩ := h
      exact ⟨ex, r0, r1, a, b, rfl, rfl, q0, q1⟩
theorem LV.three {lv : V} {l : List Nd} (h : LV lv l) (h2 : l.length = 3) : ∃ ex r0 r1 r2 a b c, lv = .slc ex 7 [r0, r1, r2] ∧ l = [a, b, c] ∧ NdV a r0 ∧ NdV b r1 ∧ NdV c r2 := by
  rcases h with ⟨_, rfl⟩ | ⟨ex, rows, rfl, h, _⟩
  · simp at h2
  · match l, h2 with
    | [a, b, c], _ =>
      simp only [NdR] at h
      obtain ⟨r0, _, rfl, q0, r1, _, rfl, q1, r2, _, rfl, q2, rfl⟩ := h
      exact ⟨ex, r0, r1, r2, a, b, c, rfl, rfl, q0, q1, q2⟩
theorem head2 {nm : ByteArray → Bool} {a b : Nd} : headN nm [a, b] = (okK nm 20 24 a && okK nm 7 7 b) := by simp [headN, allN, okK]
theorem head3 {nm : ByteArray → Bool} {a b c : Nd} : headN nm [a, b, c] = (okK nm 20 24 a && (okK nm 7 7 b && okK nm 7 7 c)) := by simp [headN, allN, okK]
set_option maxHeartbeats 8000000 in
theorem stmt_r (n : Nat) : ∀ (x : Nd), szN x ≤ n → StmtOk x := by
  refine n.rec (fun x hn => ?_) (fun n ih x hn => ?_)
  · cases x; simp [szN] at hn
  have hE : ∀ y ∈ x.l, ExprOk y := fun y _ => expr_r _ y (Nat.le_refl _)
  have hB : ∀ y ∈ x.l, BlockOk y := fun y hy => block_of fun z hz => ih z (by have := sz_child hy; have := sz_child hz; omega)
  intro base cs h hv
  first | refine WpF_pure (A := f_spinnakerref23_Stmt) rfl rfl rfl rfl ?_ | refine WpF_imp (A := f_spinnakerref23_Stmt) rfl rfl rfl rfl ?_
  obtain ⟨lv, rfl, hl⟩ := hv.open
  simp only [f_spinnakerref23_Stmt]
  refine WpC_cut (fun en' h' => en' 1 = .eptr [.sc (.int .i64 x.kind), .sc (.string x.s), .sc (.string x.t), .sc (.int .i64 x.n), .sc (.int .i64 x.ord), .sc (.int .i64 x.line), lv] 0 ∧ h' = h) ?_ ?_
  · simp only [SQ, SQB, oneCell, AOp.opds, Nat.reduceAdd, step, Opd.get, reduceCtorEq, slcLen, bin, binInt, reduceIte, Nat.reduceEqDiff, IntKind.signed, indexV, asNat?, loadV, cutCells, unary, evRess, evRes1, oneOrTup, wrapV, target, getsO, boundO, sliceV, exTo, Cp.isFull, isNil, moveV, Int.reduceLE, Int.reduceLT, Int.reduceEq, Int.reduceBEq, Int.reduceGT, Int.reduceGE, Nat.reduceLT, Nat.reduceLeDiff, SQX, V.cells, hl.gr]
  rintro en1 h1 ⟨e1, rfl⟩
  refine WpC_cut (fun en' h' => en' 1 = .eptr [.sc (.int .i64 x.kind), .sc (.string x.s), .sc (.string x.t), .sc (.int .i64 x.n), .sc (.int .i64 x.ord), .sc (.int .i64 x.line), lv] 0 ∧ en' 3 = .sc (.int .i64 x.ord) ∧ h' = h1) ?_ ?_
  · simp only [SQ, SQB, oneCell, AOp.opds, Nat.reduceAdd, step, Opd.get, reduceCtorEq, slcLen, bin, binInt, reduceIte, Nat.reduceEqDiff, IntKind.signed, indexV, asNat?, loadV, cutCells, unary, evRess, evRes1, oneOrTup, wrapV, target, getsO, boundO, sliceV, exTo, Cp.isFull, isNil, moveV, Int.reduceLE, Int.reduceLT, Int.reduceEq, Int.reduceBEq, Int.reduceGT, Int.reduceGE, Nat.reduceLT, Nat.reduceLeDiff, SQX, V.cells, e1]
  clear e1
  rintro en2 h2 ⟨e1, e3, rfl⟩
  by_cases hk : x.kind = 8
  · have hb := fun base h => blank_r (base := base) hv ⟨#[83, 76]⟩ true false false false true h (by decide) (by decide) (by decide) (by decide) (by decide) (by decide)
    have he : okK nameB 8 19 x = mayN nameB x := by simp [okK, hk]
    rw [he, mayN_8 hk]
    rw [hk] at hb e1
    generalize hA : blankB nameB true false false false true x = A at hb
    have he1 := fun base h => exprs_r (base := base) hl 1 h hE
    generalize hX1 : (decide ((x.l.length : Int) = 1) && allN nameB 20 24 x.l) = X1 at he1
    have hY1 : (decide (x.l.length = 1) && allN nameB 20 24 x.l) = X1 := by rw [← hX1]; congr 1; rw [decide_eq_decide]; omega
    rw [hY1]
    cases A
    · (simp only [SQ, SQB, oneCell, AOp.opds, Nat.reduceAdd, step, Opd.get, reduceCtorEq, bin, binInt, reduceIte, Nat.reduceEqDiff, IntKind.signed, indexV, asNat?, loadV, cutCells, unary, evRess, evRes1, oneOrTup, wrapV, target, getsO, boundO, sliceV, exTo, Cp.isFull, isNil, moveV, Int.reduceLE, Int.reduceLT, Int.reduceEq, Int.reduceBEq, Int.reduceGT, Int.reduceGE, Nat.reduceLT, Nat.reduceLeDiff, SQX, V.cells, hk, hl.len, take7, str_eq, callD_ret (hb _ _), callD_ret (he1 _ _), e1, e3, binStr, Bool.and_false, Bool.false_and, Bool.or_false, Bool.false_or, Bool.true_or, Bool.or_true]) <;> first | done | (simp; done) | (simp; omega) | omega
    · cases X1
      · (simp only [SQ, SQB, oneCell, AOp.opds, Nat.reduceAdd, step, Opd.get, reduceCtorEq, bin, binInt, reduceIte, Nat.reduceEqDiff, IntKind.signed, indexV, asNat?, loadV, cutCells, unary, evRess, evRes1, oneOrTup, wrapV, target, getsO, boundO, sliceV, exTo, Cp.isFull, isNil, moveV, Int.reduceLE, Int.reduceLT, Int.reduceEq, Int.reduceBEq, Int.reduceGT, Int.reduceGE, Nat.reduceLT, Nat.reduceLeDiff, SQX, V.cells, hk, hl.len, take7, str_eq, callD_ret (hb _ _), callD_ret (he1 _ _), e1, e3, binStr, Bool.and_false, Bool.false_and, Bool.or_false, Bool.false_or, Bool.true_or, Bool.or_true]) <;> first | done | (simp; done) | (simp; omega) | omega
      · (simp only [SQ, SQB, oneCell, AOp.opds, Nat.reduceAdd, step, Opd.get, reduceCtorEq, bin, binInt, reduceIte, Nat.reduceEqDiff, IntKind.signed, indexV, asNat?, loadV, cutCells, unary, evRess, evRes1, oneOrTup, wrapV, target, getsO, boundO, sliceV, exTo, Cp.isFull, isNil, moveV, Int.reduceLE, Int.reduceLT, Int.reduceEq, Int.reduceBEq, Int.reduceGT, Int.reduceGE, Nat.reduceLT, Nat.reduceLeDiff, SQX, V.cells, hk, hl.len, take7, str_eq, callD_ret (hb _ _), callD_ret (he1 _ _), e1, e3, binStr, Bool.and_false, Bool.false_and, Bool.or_false, Bool.false_or, Bool.true_or, Bool.or_true]) <;> first | done | (simp; done) | (simp; omega) | omega
  by_cases hk : x.kind = 9
  · have hb := fun base h => blank_r (base := base) hv ⟨#[83, 76]⟩ true false false false true h (by decide) (by decide) (by decide) (by decide) (by decide) (by decide)
    have he : okK nameB 8 19 x = mayN nameB x := by simp [okK, hk]
    rw [he, mayN_9 hk]
    rw [hk] at hb e1
    generalize hA : blankB nameB true false false false true x = A at hb
    have he1 := fun base h => exprs_r (base := base) hl 2 h hE
    generalize hX1 : (decide ((x.l.length : Int) = 2) && allN nameB 20 24 x.l) = X1 at he1
    have hY1 : (decide (x.l.length = 2) && allN nameB 20 24 x.l) = X1 := by rw [← hX1]; congr 1; rw [decide_eq_decide]; omega
    rw [hY1]
    cases A
    · (simp only [SQ, SQB, oneCell, AOp.opds, Nat.reduceAdd, step, Opd.get, reduceCtorEq, bin, binInt, reduceIte, Nat.reduceEqDiff, IntKind.signed, indexV, asNat?, loadV, cutCells, unary, evRess, evRes1, oneOrTup, wrapV, target, getsO, boundO, sliceV, exTo, Cp.isFull, isNil, moveV, Int.reduceLE, Int.reduceLT, Int.reduceEq, Int.reduceBEq, Int.reduceGT, Int.reduceGE, Nat.reduceLT, Nat.reduceLeDiff, SQX, V.cells, hk, hl.len, take7, str_eq, callD_ret (hb _ _), callD_ret (he1 _ _), e1, e3, binStr, Bool.and_false, Bool.false_and, Bool.or_false, Bool.false_or, Bool.true_or, Bool.or_true]) <;> first | done | (simp; done) | (simp; omega) | omega
    · cases X1
      · (simp only [SQ, SQB, oneCell, AOp.opds, Nat.reduceAdd, step, Opd.get, reduceCtorEq, bin, binInt, reduceIte, Nat.reduceEqDiff, IntKind.signed, indexV, asNat?, loadV, cutCells, unary, evRess, evRes1, oneOrTup, wrapV, target, getsO, boundO, sliceV, exTo, Cp.isFull, isNil, moveV, Int.reduceLE, Int.reduceLT, Int.reduceEq, Int.reduceBEq, Int.reduceGT, Int.reduceGE, Nat.reduceLT, Nat.reduceLeDiff, SQX, V.cells, hk, hl.len, take7, str_eq, callD_ret (hb _ _), callD_ret (he1 _ _), e1, e3, binStr, Bool.and_false, Bool.false_and, Bool.or_false, Bool.false_or, Bool.true_or, Bool.or_true]) <;> first | done | (simp; done) | (simp; omega) | omega
      · (simp only [SQ, SQB, oneCell, AOp.opds, Nat.reduceAdd, step, Opd.get, reduceCtorEq, bin, binInt, reduceIte, Nat.reduceEqDiff, IntKind.signed, indexV, asNat?, loadV, cutCells, unary, evRess, evRes1, oneOrTup, wrapV, target, getsO, boundO, sliceV, exTo, Cp.isFull, isNil, moveV, Int.reduceLE, Int.reduceLT, Int.reduceEq, Int.reduceBEq, Int.reduceGT, Int.reduceGE, Nat.reduceLT, Nat.reduceLeDiff, SQX, V.cells, hk, hl.len, take7, str_eq, callD_ret (hb _ _), callD_ret (he1 _ _), e1, e3, binStr, Bool.and_false, Bool.false_and, Bool.or_false, Bool.false_or, Bool.true_or, Bool.or_true]) <;> first | done | (simp; done) | (simp; omega) | omega
  by_cases hk : x.kind = 10
  · have hb := fun base h => blank_r (base := base) hv ⟨#[83, 84, 79]⟩ true true false true false h (by decide) (by decide) (by decide) (by decide) (by decide) (by decide)
    have he : okK nameB 8 19 x = mayN nameB x := by simp [okK, hk]
    rw [he, mayN_10 hk]
    rw [hk] at hb e1
    generalize hA : blankB nameB true true false true false x = A at hb
    have hn1 := fun base h => refName_r (base := base) x.t h
    generalize hT1 : nameB x.t = N1 at hn1
    rw [Bool.decide_or]
    cases A
    · (simp only [SQ, SQB, oneCell, AOp.opds, Nat.reduceAdd, step, Opd.get, reduceCtorEq, bin, binInt, reduceIte, Nat.reduceEqDiff, IntKind.signed, indexV, asNat?, loadV, cutCells, unary, evRess, evRes1, oneOrTup, wrapV, target, getsO, boundO, sliceV, exTo, Cp.isFull, isNil, moveV, Int.reduceLE, Int.reduceLT, Int.reduceEq, Int.reduceBEq, Int.reduceGT, Int.reduceGE, Nat.reduceLT, Nat.reduceLeDiff, SQX, V.cells, hk, hl.len, take7, str_eq, callD_ret (hb _ _), callD_ret (hn1 _ _), e1, e3, binStr, Bool.and_false, Bool.false_and, Bool.or_false, Bool.false_or, Bool.true_or, Bool.or_true]) <;> first | done | (simp; done) | (simp; omega) | omega
    · cases N1
      · (simp only [SQ, SQB, oneCell, AOp.opds, Nat.reduceAdd, step, Opd.get, reduceCtorEq, bin, binInt, reduceIte, Nat.reduceEqDiff, IntKind.signed, indexV, asNat?, loadV, cutCells, unary, evRess, evRes1, oneOrTup, wrapV, target, getsO, boundO, sliceV, exTo, Cp.isFull, isNil, moveV, Int.reduceLE, Int.reduceLT, Int.reduceEq, Int.reduceBEq, Int.reduceGT, Int.reduceGE, Nat.reduceLT, Nat.reduceLeDiff, SQX, V.cells, hk, hl.len, take7, str_eq, callD_ret (hb _ _), callD_ret (hn1 _ _), e1, e3, binStr, Bool.and_false, Bool.false_and, Bool.or_false, Bool.false_or, Bool.true_or, Bool.or_true]) <;> first | done | (simp; done) | (simp; omega) | omega
      · cases p2 : decide (x.ord = 0)
        · cases p3 : decide (x.ord = 1)
          · (simp only [SQ, SQB, oneCell, AOp.opds, Nat.reduceAdd, step, Opd.get, reduceCtorEq, bin, binInt, reduceIte, Nat.reduceEqDiff, IntKind.signed, indexV, asNat?, loadV, cutCells, unary, evRess, evRes1, oneOrTup, wrapV, target, getsO, boundO, sliceV, exTo, Cp.isFull, isNil, moveV, Int.reduceLE, Int.reduceLT, Int.reduceEq, Int.reduceBEq, Int.reduceGT, Int.reduceGE, Nat.reduceLT, Nat.reduceLeDiff, SQX, V.cells, hk, hl.len, take7, str_eq, callD_ret (hb _ _), callD_ret (hn1 _ _), p2, p3, e1, e3, binStr, Bool.and_false, Bool.false_and, Bool.or_false, Bool.false_or, Bool.true_or, Bool.or_true]) <;> first | done | (simp; done) | (simp; omega) | omega
          · (simp only [SQ, SQB, oneCell, AOp.opds, Nat.reduceAdd, step, Opd.get, reduceCtorEq, bin, binInt, reduceIte, Nat.reduceEqDiff, IntKind.signed, indexV, asNat?, loadV, cutCells, unary, evRess, evRes1, oneOrTup, wrapV, target, getsO, boundO, sliceV, exTo, Cp.isFull, isNil, moveV, Int.reduceLE, Int.reduceLT, Int.reduceEq, Int.reduceBEq, Int.reduceGT, Int.reduceGE, Nat.reduceLT, Nat.reduceLeDiff, SQX, V.cells, hk, hl.len, take7, str_eq, callD_ret (hb _ _), callD_ret (hn1 _ _), p2, p3, e1, e3, binStr, Bool.and_false, Bool.false_and, Bool.or_false, Bool.false_or, Bool.true_or, Bool.or_true]) <;> first | done | (simp; done) | (simp; omega) | omega
        · cases p3 : decide (x.ord = 1)
          · (simp only [SQ, SQB, oneCell, AOp.opds, Nat.reduceAdd, step, Opd.get, reduceCtorEq, bin, binInt, reduceIte, Nat.reduceEqDiff, IntKind.signed, indexV, asNat?, loadV, cutCells, unary, evRess, evRes1, oneOrTup, wrapV, target, getsO, boundO, sliceV, exTo, Cp.isFull, isNil, moveV, Int.reduceLE, Int.reduceLT, Int.reduceEq, Int.reduceBEq, Int.reduceGT, Int.reduceGE, Nat.reduceLT, Nat.reduceLeDiff, SQX, V.cells, hk, hl.len, take7, str_eq, callD_ret (hb _ _), callD_ret (hn1 _ _), p2, p3, e1, e3, binStr, Bool.and_false, Bool.false_and, Bool.or_false, Bool.false_or, Bool.true_or, Bool.or_true]) <;> first | done | (simp; done) | (simp; omega) | omega
          · (simp only [SQ, SQB, oneCell, AOp.opds, Nat.reduceAdd, step, Opd.get, reduceCtorEq, bin, binInt, reduceIte, Nat.reduceEqDiff, IntKind.signed, indexV, asNat?, loadV, cutCells, unary, evRess, evRes1, oneOrTup, wrapV, target, getsO, boundO, sliceV, exTo, Cp.isFull, isNil, moveV, Int.reduceLE, Int.reduceLT, Int.reduceEq, Int.reduceBEq, Int.reduceGT, Int.reduceGE, Nat.reduceLT, Nat.reduceLeDiff, SQX, V.cells, hk, hl.len, take7, str_eq, callD_ret (hb _ _), callD_ret (hn1 _ _), p2, p3, e1, e3, binStr, Bool.and_false, Bool.false_and, Bool.or_false, Bool.false_or, Bool.true_or, Bool.or_true]) <;> first | done | (simp; done) | (simp; omega) | omega
  by_cases hk : x.kind = 11
  · have hb := fun base h => blank_r (base := base) hv ⟨#[83, 79, 76]⟩ true false false true true h (by decide) (by decide) (by decide) (by decide) (by decide) (by decide)
    have he : okK nameB 8 19 x = mayN nameB x := by simp [okK, hk]
    rw [he, mayN_11 hk]
    rw [hk] at hb e1
    generalize hA : blankB nameB true false false true true x = A at hb
    have he1 := fun base h => exprs_r (base := base) hl 1 h hE
    generalize hX1 : (decide ((x.l.length : Int) = 1) && allN nameB 20 24 x.l) = X1 at he1
    have hY1 : (decide (x.l.length = 1) && allN nameB 20 24 x.l) = X1 := by rw [← hX1]; congr 1; rw [decide_eq_decide]; omega
    rw [hY1]
    rw [Bool.decide_or]
    cases A
    · (simp only [SQ, SQB, oneCell, AOp.opds, Nat.reduceAdd, step, Opd.get, reduceCtorEq, bin, binInt, reduceIte, Nat.reduceEqDiff, IntKind.signed, indexV, asNat?, loadV, cutCells, unary, evRess, evRes1, oneOrTup, wrapV, target, getsO, boundO, sliceV, exTo, Cp.isFull, isNil, moveV, Int.reduceLE, Int.reduceLT, Int.reduceEq, Int.reduceBEq, Int.reduceGT, Int.reduceGE, Nat.reduceLT, Nat.reduceLeDiff, SQX, V.cells, hk, hl.len, take7, str_eq, callD_ret (hb _ _), callD_ret (he1 _ _), e1, e3, binStr, Bool.and_false, Bool.false_and, Bool.or_false, Bool.false_or, Bool.true_or, Bool.or_true]) <;> first | done | (simp; done) | (simp; omega) | omega
    · cases X1
      · (simp only [SQ, SQB, oneCell, AOp.opds, Nat.reduceAdd, step, Opd.get, reduceCtorEq, bin, binInt, reduceIte, Nat.reduceEqDiff, IntKind.signed, indexV, asNat?, loadV, cutCells, unary, evRess, evRes1, oneOrTup, wrapV, target, getsO, boundO, sliceV, exTo, Cp.isFull, isNil, moveV, Int.reduceLE, Int.reduceLT, Int.reduceEq, Int.reduceBEq, Int.reduceGT, Int.reduceGE, Nat.reduceLT, Nat.reduceLeDiff, SQX, V.cells, hk, hl.len, take7, str_eq, callD_ret (hb _ _), callD_ret (he1 _ _), e1, e3, binStr, Bool.and_false, Bool.false_and, Bool.or_false, Bool.false_or, Bool.true_or, Bool.or_true]) <;> first | done | (simp; done) | (simp; omega) | omega
      · cases p2 : decide (x.ord = 0)
        · cases p3 : decide (x.ord = 2)
          · (simp only [SQ, SQB, oneCell, AOp.opds, Nat.reduceAdd, step, Opd.get, reduceCtorEq, bin, binInt, reduceIte, Nat.reduceEqDiff, IntKind.signed, indexV, asNat?, loadV, cutCells, unary, evRess, evRes1, oneOrTup, wrapV, target, getsO, boundO, sliceV, exTo, Cp.isFull, isNil, moveV, Int.reduceLE, Int.reduceLT, Int.reduceEq, Int.reduceBEq, Int.reduceGT, Int.reduceGE, Nat.reduceLT, Nat.reduceLeDiff, SQX, V.cells, hk, hl.len, take7, str_eq, callD_ret (hb _ _), callD_ret (he1 _ _), p2, p3, e1, e3, binStr, Bool.and_false, Bool.false_and, Bool.or_false, Bool.false_or, Bool.true_or, Bool.or_true]) <;> first | done | (simp; done) | (simp; omega) | omega
          · (simp only [SQ, SQB, oneCell, AOp.opds, Nat.reduceAdd, step, Opd.get, reduceCtorEq, bin, binInt, reduceIte, Nat.reduceEqDiff, IntKind.signed, indexV, asNat?, loadV, cutCells, unary, evRess, evRes1, oneOrTup, wrapV, target, getsO, boundO, sliceV, exTo, Cp.isFull, isNil, moveV, Int.reduceLE, Int.reduceLT, Int.reduceEq, Int.reduceBEq, Int.reduceGT, Int.reduceGE, Nat.reduceLT, Nat.reduceLeDiff, SQX, V.cells, hk, hl.len, take7, str_eq, callD_ret (hb _ _), callD_ret (he1 _ _), p2, p3, e1, e3, binStr, Bool.and_false, Bool.false_and, Bool.or_false, Bool.false_or, Bool.true_or, Bool.or_true]) <;> first | done | (simp; done) | (simp; omega) | omega
        · cases p3 : decide (x.ord = 2)
          · (simp only [SQ, SQB, oneCell, AOp.opds, Nat.reduceAdd, step, Opd.get, reduceCtorEq, bin, binInt, reduceIte, Nat.reduceEqDiff, IntKind.signed, indexV, asNat?, loadV, cutCells, unary, evRess, evRes1, oneOrTup, wrapV, target, getsO, boundO, sliceV, exTo, Cp.isFull, isNil, moveV, Int.reduceLE, Int.reduceLT, Int.reduceEq, Int.reduceBEq, Int.reduceGT, Int.reduceGE, Nat.reduceLT, Nat.reduceLeDiff, SQX, V.cells, hk, hl.len, take7, str_eq, callD_ret (hb _ _), callD_ret (he1 _ _), p2, p3, e1, e3, binStr, Bool.and_false, Bool.false_and, Bool.or_false, Bool.false_or, Bool.true_or, Bool.or_true]) <;> first | done | (simp; done) | (simp; omega) | omega
          · (simp only [SQ, SQB, oneCell, AOp.opds, Nat.reduceAdd, step, Opd.get, reduceCtorEq, bin, binInt, reduceIte, Nat.reduceEqDiff, IntKind.signed, indexV, asNat?, loadV, cutCells, unary, evRess, evRes1, oneOrTup, wrapV, target, getsO, boundO, sliceV, exTo, Cp.isFull, isNil, moveV, Int.reduceLE, Int.reduceLT, Int.reduceEq, Int.reduceBEq, Int.reduceGT, Int.reduceGE, Nat.reduceLT, Nat.reduceLeDiff, SQX, V.cells, hk, hl.len, take7, str_eq, callD_ret (hb _ _), callD_ret (he1 _ _), p2, p3, e1, e3, binStr, Bool.and_false, Bool.false_and, Bool.or_false, Bool.false_or, Bool.true_or, Bool.or_true]) <;> first | done | (simp; done) | (simp; omega) | omega
  by_cases hk : x.kind = 12
  · have hb := fun base h => blank_r (base := base) hv ⟨#[83, 84, 78, 79, 76]⟩ true true true true true h (by decide) (by decide) (by decide) (by decide) (by decide) (by decide)
    have he : okK nameB 8 19 x = mayN nameB x := by simp [okK, hk]
    rw [he, mayN_12 hk]
    rw [hk] at hb e1
    generalize hA : blankB nameB true true true true true x = A at hb
    have hn1 := fun base h => refName_r (base := base) x.t h
    generalize hT1 : nameB x.t = N1 at hn1
    have he4 := fun base h => exprs_r (base := base) hl 1 h hE
    generalize hX4 : (decide ((x.l.length : Int) = 1) && allN nameB 20 24 x.l) = X4 at he4
    have hY4 : (decide (x.l.length = 1) && allN nameB 20 24 x.l) = X4 := by rw [← hX4]; congr 1; rw [decide_eq_decide]; omega
    rw [hY4]
    cases A
    · (simp only [SQ, SQB, oneCell, AOp.opds, Nat.reduceAdd, step, Opd.get, reduceCtorEq, bin, binInt, reduceIte, Nat.reduceEqDiff, IntKind.signed, indexV, asNat?, loadV, cutCells, unary, evRess, evRes1, oneOrTup, wrapV, target, getsO, boundO, sliceV, exTo, Cp.isFull, isNil, moveV, Int.reduceLE, Int.reduceLT, Int.reduceEq, Int.reduceBEq, Int.reduceGT, Int.reduceGE, Nat.reduceLT, Nat.reduceLeDiff, SQX, V.cells, hk, hl.len, take7, str_eq, callD_ret (hb _ _), callD_ret (hn1 _ _), callD_ret (he4 _ _), e1, e3, binStr, Bool.and_false, Bool.false_and, Bool.or_false, Bool.false_or, Bool.true_or, Bool.or_true]) <;> first | done | (simp; done) | (simp; omega) | omega
    · cases N1
      · (simp only [SQ, SQB, oneCell, AOp.opds, Nat.reduceAdd, step, Opd.get, reduceCtorEq, bin, binInt, reduceIte, Nat.reduceEqDiff, IntKind.signed, indexV, asNat?, loadV, cutCells, unary, evRess, evRes1, oneOrTup, wrapV, target, getsO, boundO, sliceV, exTo, Cp.isFull, isNil, moveV, Int.reduceLE, Int.reduceLT, Int.reduceEq, Int.reduceBEq, Int.reduceGT, Int.reduceGE, Nat.reduceLT, Nat.reduceLeDiff, SQX, V.cells, hk, hl.len, take7, str_eq, callD_ret (hb _ _), callD_ret (hn1 _ _), callD_ret (he4 _ _), e1, e3, binStr, Bool.and_false, Bool.false_and, Bool.or_false, Bool.false_or, Bool.true_or, Bool.or_true]) <;> first | done | (simp; done) | (simp; omega) | omega
      · by_cases p2 : 1 ≤ x.n
        · by_cases p3 : x.n ≤ 7
          · cases X4
            · (simp only [SQ, SQB, oneCell, AOp.opds, Nat.reduceAdd, step, Opd.get, reduceCtorEq, bin, binInt, reduceIte, Nat.reduceEqDiff, IntKind.signed, indexV, asNat?, loadV, cutCells, unary, evRess, evRes1, oneOrTup, wrapV, target, getsO, boundO, sliceV, exTo, Cp.isFull, isNil, moveV, Int.reduceLE, Int.reduceLT, Int.reduceEq, Int.reduceBEq, Int.reduceGT, Int.reduceGE, Nat.reduceLT, Nat.reduceLeDiff, SQX, V.cells, hk, hl.len, take7, str_eq, callD_ret (hb _ _), callD_ret (hn1 _ _), callD_ret (he4 _ _), p2, p3, e1, e3, binStr, Bool.and_false, Bool.false_and, Bool.or_false, Bool.false_or, Bool.true_or, Bool.or_true]) <;> first | done | (simp; done) | (simp; omega) | omega
            · by_cases p5 : 0 ≤ x.ord
              · by_cases p6 : x.ord ≤ 3
                · (simp only [SQ, SQB, oneCell, AOp.opds, Nat.reduceAdd, step, Opd.get, reduceCtorEq, bin, binInt, reduceIte, Nat.reduceEqDiff, IntKind.signed, indexV, asNat?, loadV, cutCells, unary, evRess, evRes1, oneOrTup, wrapV, target, getsO, boundO, sliceV, exTo, Cp.isFull, isNil, moveV, Int.reduceLE, Int.reduceLT, Int.reduceEq, Int.reduceBEq, Int.reduceGT, Int.reduceGE, Nat.reduceLT, Nat.reduceLeDiff, SQX, V.cells, hk, hl.len, take7, str_eq, callD_ret (hb _ _), callD_ret (hn1 _ _), callD_ret (he4 _ _), p2, p3, p5, p6, e1, e3, binStr, Bool.and_false, Bool.false_and, Bool.or_false, Bool.false_or, Bool.true_or, Bool.or_true]) <;> first | done | (simp; done) | (simp; omega) | omega
                · (simp only [SQ, SQB, oneCell, AOp.opds, Nat.reduceAdd, step, Opd.get, reduceCtorEq, bin, binInt, reduceIte, Nat.reduceEqDiff, IntKind.signed, indexV, asNat?, loadV, cutCells, unary, evRess, evRes1, oneOrTup, wrapV, target, getsO, boundO, sliceV, exTo, Cp.isFull, isNil, moveV, Int.reduceLE, Int.reduceLT, Int.reduceEq, Int.reduceBEq, Int.reduceGT, Int.reduceGE, Nat.reduceLT, Nat.reduceLeDiff, SQX, V.cells, hk, hl.len, take7, str_eq, callD_ret (hb _ _), callD_ret (hn1 _ _), callD_ret (he4 _ _), p2, p3, p5, p6, e1, e3, binStr, Bool.and_false, Bool.false_and, Bool.or_false, Bool.false_or, Bool.true_or, Bool.or_true]) <;> first | done | (simp; done) | (simp; omega) | omega
              · (simp only [SQ, SQB, oneCell, AOp.opds, Nat.reduceAdd, step, Opd.get, reduceCtorEq, bin, binInt, reduceIte, Nat.reduceEqDiff, IntKind.signed, indexV, asNat?, loadV, cutCells, unary, evRess, evRes1, oneOrTup, wrapV, target, getsO, boundO, sliceV, exTo, Cp.isFull, isNil, moveV, Int.reduceLE, Int.reduceLT, Int.reduceEq, Int.reduceBEq, Int.reduceGT, Int.reduceGE, Nat.reduceLT, Nat.reduceLeDiff, SQX, V.cells, hk, hl.len, take7, str_eq, callD_ret (hb _ _), callD_ret (hn1 _ _), callD_ret (he4 _ _), p2, p3, p5, e1, e3, binStr, Bool.and_false, Bool.false_and, Bool.or_false, Bool.false_or, Bool.true_or, Bool.or_true]) <;> first | done | (simp; done) | (simp; omega) | omega
          · (simp only [SQ, SQB, oneCell, AOp.opds, Nat.reduceAdd, step, Opd.get, reduceCtorEq, bin, binInt, reduceIte, Nat.reduceEqDiff, IntKind.signed, indexV, asNat?, loadV, cutCells, unary, evRess, evRes1, oneOrTup, wrapV, target, getsO, boundO, sliceV, exTo, Cp.isFull, isNil, moveV, Int.reduceLE, Int.reduceLT, Int.reduceEq, Int.reduceBEq, Int.reduceGT, Int.reduceGE, Nat.reduceLT, Nat.reduceLeDiff, SQX, V.cells, hk, hl.len, take7, str_eq, callD_ret (hb _ _), callD_ret (hn1 _ _), callD_ret (he4 _ _), p2, p3, e1, e3, binStr, Bool.and_false, Bool.false_and, Bool.or_false, Bool.false_or, Bool.true_or, Bool.or_true]) <;> first | done | (simp; done) | (simp; omega) | omega
        · (simp only [SQ, SQB, oneCell, AOp.opds, Nat.reduceAdd, step, Opd.get, reduceCtorEq, bin, binInt, reduceIte, Nat.reduceEqDiff, IntKind.signed, indexV, asNat?, loadV, cutCells, unary, evRess, evRes1, oneOrTup, wrapV, target, getsO, boundO, sliceV, exTo, Cp.isFull, isNil, moveV, Int.reduceLE, Int.reduceLT, Int.reduceEq, Int.reduceBEq, Int.reduceGT, Int.reduceGE, Nat.reduceLT, Nat.reduceLeDiff, SQX, V.cells, hk, hl.len, take7, str_eq, callD_ret (hb _ _), callD_ret (hn1 _ _), callD_ret (he4 _ _), p2, e1, e3, binStr, Bool.and_false, Bool.false_and, Bool.or_false, Bool.false_or, Bool.true_or, Bool.or_true]) <;> first | done | (simp; done) | (simp; omega) | omega
  by_cases hk : x.kind = 13
  · have hb := fun base h => blank_r (base := base) hv ⟨#[83, 84, 79, 76]⟩ true true false true true h (by decide) (by decide) (by decide) (by decide) (by decide) (by decide)
    have he : okK nameB 8 19 x = mayN nameB x := by simp [okK, hk]
    rw [he, mayN_13 hk]
    rw [hk] at hb e1
    generalize hA : blankB nameB true true false true true x = A at hb
    have hn1 := fun base h => refName_r (base := base) x.t h
    generalize hT1 : nameB x.t = N1 at hn1
    have he2 := fun base h => exprs_r (base := base) hl 2 h hE
    generalize hX2 : (decide ((x.l.length : Int) = 2) && allN nameB 20 24 x.l) = X2 at he2
    have hY2 : (decide (x.l.length = 2) && allN nameB 20 24 x.l) = X2 := by rw [← hX2]; congr 1; rw [decide_eq_decide]; omega
    rw [hY2]
    cases A
    · (simp only [SQ, SQB, oneCell, AOp.opds, Nat.reduceAdd, step, Opd.get, reduceCtorEq, bin, binInt, reduceIte, Nat.reduceEqDiff, IntKind.signed, indexV, asNat?, loadV, cutCells, unary, evRess, evRes1, oneOrTup, wrapV, target, getsO, boundO, sliceV, exTo, Cp.isFull, isNil, moveV, Int.reduceLE, Int.reduceLT, Int.reduceEq, Int.reduceBEq, Int.reduceGT, Int.reduceGE, Nat.reduceLT, Nat.reduceLeDiff, SQX, V.cells, hk, hl.len, take7, str_eq, callD_ret (hb _ _), callD_ret (hn1 _ _), callD_ret (he2 _ _), e1, e3, binStr, Bool.and_false, Bool.false_and, Bool.or_false, Bool.false_or, Bool.true_or, Bool.or_true]) <;> first | done | (simp; done) | (simp; omega) | omega
    · cases N1
      · (simp only [SQ, SQB, oneCell, AOp.opds, Nat.reduceAdd, step, Opd.get, reduceCtorEq, bin, binInt, reduceIte, Nat.reduceEqDiff, IntKind.signed, indexV, asNat?, loadV, cutCells, unary, evRess, evRes1, oneOrTup, wrapV, target, getsO, boundO, sliceV, exTo, Cp.isFull, isNil, moveV, Int.reduceLE, Int.reduceLT, Int.reduceEq, Int.reduceBEq, Int.reduceGT, Int.reduceGE, Nat.reduceLT, Nat.reduceLeDiff, SQX, V.cells, hk, hl.len, take7, str_eq, callD_ret (hb _ _), callD_ret (hn1 _ _), callD_ret (he2 _ _), e1, e3, binStr, Bool.and_false, Bool.false_and, Bool.or_false, Bool.false_or, Bool.true_or, Bool.or_true]) <;> first | done | (simp; done) | (simp; omega) | omega
      · cases X2
        · (simp only [SQ, SQB, oneCell, AOp.opds, Nat.reduceAdd, step, Opd.get, reduceCtorEq, bin, binInt, reduceIte, Nat.reduceEqDiff, IntKind.signed, indexV, asNat?, loadV, cutCells, unary, evRess, evRes1, oneOrTup, wrapV, target, getsO, boundO, sliceV, exTo, Cp.isFull, isNil, moveV, Int.reduceLE, Int.reduceLT, Int.reduceEq, Int.reduceBEq, Int.reduceGT, Int.reduceGE, Nat.reduceLT, Nat.reduceLeDiff, SQX, V.cells, hk, hl.len, take7, str_eq, callD_ret (hb _ _), callD_ret (hn1 _ _), callD_ret (he2 _ _), e1, e3, binStr, Bool.and_false, Bool.false_and, Bool.or_false, Bool.false_or, Bool.true_or, Bool.or_true]) <;> first | done | (simp; done) | (simp; omega) | omega
        · by_cases p3 : 0 ≤ x.ord
          · by_cases p4 : x.ord ≤ 3
            · (simp only [SQ, SQB, oneCell, AOp.opds, Nat.reduceAdd, step, Opd.get, reduceCtorEq, bin, binInt, reduceIte, Nat.reduceEqDiff, IntKind.signed, indexV, asNat?, loadV, cutCells, unary, evRess, evRes1, oneOrTup, wrapV, target, getsO, boundO, sliceV, exTo, Cp.isFull, isNil, moveV, Int.reduceLE, Int.reduceLT, Int.reduceEq, Int.reduceBEq, Int.reduceGT, Int.reduceGE, Nat.reduceLT, Nat.reduceLeDiff, SQX, V.cells, hk, hl.len, take7, str_eq, callD_ret (hb _ _), callD_ret (hn1 _ _), callD_ret (he2 _ _), p3, p4, e1, e3, binStr, Bool.and_false, Bool.false_and, Bool.or_false, Bool.false_or, Bool.true_or, Bool.or_true]) <;> first | done | (simp; done) | (simp; omega) | omega
            · (simp only [SQ, SQB, oneCell, AOp.opds, Nat.reduceAdd, step, Opd.get, reduceCtorEq, bin, binInt, reduceIte, Nat.reduceEqDiff, IntKind.signed, indexV, asNat?, loadV, cutCells, unary, evRess, evRes1, oneOrTup, wrapV, target, getsO, boundO, sliceV, exTo, Cp.isFull, isNil, moveV, Int.reduceLE, Int.reduceLT, Int.reduceEq, Int.reduceBEq, Int.reduceGT, Int.reduceGE, Nat.reduceLT, Nat.reduceLeDiff, SQX, V.cells, hk, hl.len, take7, str_eq, callD_ret (hb _ _), callD_ret (hn1 _ _), callD_ret (he2 _ _), p3, p4, e1, e3, binStr, Bool.and_false, Bool.false_and, Bool.or_false, Bool.false_or, Bool.true_or, Bool.or_true]) <;> first | done | (simp; done) | (simp; omega) | omega
          · (simp only [SQ, SQB, oneCell, AOp.opds, Nat.reduceAdd, step, Opd.get, reduceCtorEq, bin, binInt, reduceIte, Nat.reduceEqDiff, IntKind.signed, indexV, asNat?, loadV, cutCells, unary, evRess, evRes1, oneOrTup, wrapV, target, getsO, boundO, sliceV, exTo, Cp.isFull, isNil, moveV, Int.reduceLE, Int.reduceLT, Int.reduceEq, Int.reduceBEq, Int.reduceGT, Int.reduceGE, Nat.reduceLT, Nat.reduceLeDiff, SQX, V.cells, hk, hl.len, take7, str_eq, callD_ret (hb _ _), callD_ret (hn1 _ _), callD_ret (he2 _ _), p3, e1, e3, binStr, Bool.and_false, Bool.false_and, Bool.or_false, Bool.false_or, Bool.true_or, Bool.or_true]) <;> first | done | (simp; done) | (simp; omega) | omega
  by_cases hk : x.kind = 14
  · have hb := fun base h => blank_r (base := base) hv ⟨#[79]⟩ false false false true false h (by decide) (by decide) (by decide) (by decide) (by decide) (by decide)
    have he : okK nameB 8 19 x = mayN nameB x := by simp [okK, hk]
    rw [he, mayN_14 hk]
    rw [hk] at hb e1
    generalize hA : blankB nameB false false false true false x = A at hb
    cases A
    · (simp only [SQ, SQB, oneCell, AOp.opds, Nat.reduceAdd, step, Opd.get, reduceCtorEq, bin, binInt, reduceIte, Nat.reduceEqDiff, IntKind.signed, indexV, asNat?, loadV, cutCells, unary, evRess, evRes1, oneOrTup, wrapV, target, getsO, boundO, sliceV, exTo, Cp.isFull, isNil, moveV, Int.reduceLE, Int.reduceLT, Int.reduceEq, Int.reduceBEq, Int.reduceGT, Int.reduceGE, Nat.reduceLT, Nat.reduceLeDiff, SQX, V.cells, hk, hl.len, take7, str_eq, callD_ret (hb _ _), e1, e3, binStr, Bool.and_false, Bool.false_and, Bool.or_false, Bool.false_or, Bool.true_or, Bool.or_true]) <;> first | done | (simp; done) | (simp; omega) | omega
    · by_cases p1 : 1 ≤ x.ord
      · by_cases p2 : x.ord ≤ 3
        · (simp only [SQ, SQB, oneCell, AOp.opds, Nat.reduceAdd, step, Opd.get, reduceCtorEq, bin, binInt, reduceIte, Nat.reduceEqDiff, IntKind.signed, indexV, asNat?, loadV, cutCells, unary, evRess, evRes1, oneOrTup, wrapV, target, getsO, boundO, sliceV, exTo, Cp.isFull, isNil, moveV, Int.reduceLE, Int.reduceLT, Int.reduceEq, Int.reduceBEq, Int.reduceGT, Int.reduceGE, Nat.reduceLT, Nat.reduceLeDiff, SQX, V.cells, hk, hl.len, take7, str_eq, callD_ret (hb _ _), p1, p2, e1, e3, binStr, Bool.and_false, Bool.false_and, Bool.or_false, Bool.false_or, Bool.true_or, Bool.or_true]) <;> first | done | (simp; done) | (simp; omega) | omega
        · (simp only [SQ, SQB, oneCell, AOp.opds, Nat.reduceAdd, step, Opd.get, reduceCtorEq, bin, binInt, reduceIte, Nat.reduceEqDiff, IntKind.signed, indexV, asNat?, loadV, cutCells, unary, evRess, evRes1, oneOrTup, wrapV, target, getsO, boundO, sliceV, exTo, Cp.isFull, isNil, moveV, Int.reduceLE, Int.reduceLT, Int.reduceEq, Int.reduceBEq, Int.reduceGT, Int.reduceGE, Nat.reduceLT, Nat.reduceLeDiff, SQX, V.cells, hk, hl.len, take7, str_eq, callD_ret (hb _ _), p1, p2, e1, e3, binStr, Bool.and_false, Bool.false_and, Bool.or_false, Bool.false_or, Bool.true_or, Bool.or_true]) <;> first | done | (simp; done) | (simp; omega) | omega
      · (simp only [SQ, SQB, oneCell, AOp.opds, Nat.reduceAdd, step, Opd.get, reduceCtorEq, bin, binInt, reduceIte, Nat.reduceEqDiff, IntKind.signed, indexV, asNat?, loadV, cutCells, unary, evRess, evRes1, oneOrTup, wrapV, target, getsO, boundO, sliceV, exTo, Cp.isFull, isNil, moveV, Int.reduceLE, Int.reduceLT, Int.reduceEq, Int.reduceBEq, Int.reduceGT, Int.reduceGE, Nat.reduceLT, Nat.reduceLeDiff, SQX, V.cells, hk, hl.len, take7, str_eq, callD_ret (hb _ _), p1, e1, e3, binStr, Bool.and_false, Bool.false_and, Bool.or_false, Bool.false_or, Bool.true_or, Bool.or_true]) <;> first | done | (simp; done) | (simp; omega) | omega
  by_cases hk : x.kind = 15
  · have hb := fun base h => blank_r (base := base) hv ⟨#[76]⟩ false false false false true h (by decide) (by decide) (by decide) (by decide) (by decide) (by decide)
    have he : okK nameB 8 19 x = mayN nameB x := by simp [okK, hk]
    rw [he, mayN_15 hk]
    rw [hk] at hb e1
    generalize hA : blankB nameB false false false false true x = A at hb
    cases A
    · (simp only [SQ, SQB, oneCell, AOp.opds, Nat.reduceAdd, step, Opd.get, reduceCtorEq, bin, binInt, reduceIte, Nat.reduceEqDiff, IntKind.signed, indexV, asNat?, loadV, cutCells, unary, evRess, evRes1, oneOrTup, wrapV, target, getsO, boundO, sliceV, exTo, Cp.isFull, isNil, moveV, Int.reduceLE, Int.reduceLT, Int.reduceEq, Int.reduceBEq, Int.reduceGT, Int.reduceGE, Nat.reduceLT, Nat.reduceLeDiff, SQX, V.cells, hk, hl.len, take7, callD_ret (hb _ _), e1, Bool.and_false, Bool.false_and]) <;> first | done | (simp; done)
    by_cases l2 : x.l.length = 2
    · skip
      obtain ⟨ex, r0, r1, a, b, rfl, hll, v0, v1⟩ := hl.two l2
      have ha := fun base h => hE a (by rw [hll]; simp) base _ h v0
      have hbb := fun base h => hB b (by rw [hll]; simp) base _ h v1
      obtain ⟨w0, rfl, _⟩ := v0.open
      obtain ⟨w1, rfl, _⟩ := v1.open
      rw [hll, head2]
      generalize okK nameB 20 24 a = X0 at ha
      generalize okK nameB 7 7 b = X1 at hbb
      cases X0 <;> cases X1 <;> (simp only [SQ, SQB, oneCell, AOp.opds, Nat.reduceAdd, step, Opd.get, reduceCtorEq, slcLen, bin, binInt, reduceIte, Nat.reduceEqDiff, IntKind.signed, indexV, asNat?, loadV, cutCells, unary, evRess, evRes1, oneOrTup, wrapV, target, getsO, boundO, sliceV, exTo, Cp.isFull, isNil, moveV, Int.reduceLE, Int.reduceLT, Int.reduceEq, Int.reduceBEq, Int.reduceGT, Int.reduceGE, Nat.reduceLT, Nat.reduceLeDiff, SQX, V.cells, hk, take7, callD_ret (hb _ _), e1, Nat.reduceAdd, Int.cast_ofNat_Int, Int.reduceToNat, Int.toNat_zero, Int.toNat_one, Bool.and_false, Bool.false_and, callD_ret (ha _ _), callD_ret (hbb _ _), hll]) <;> first | done | (simp; done)
    · by_cases l3 : x.l.length = 3
      · skip
        obtain ⟨ex, r0, r1, r2, a, b, c, rfl, hll, v0, v1, v2⟩ := hl.three l3
        have ha := fun base h => hE a (by rw [hll]; simp) base _ h v0
        have hbb := fun base h => hB b (by rw [hll]; simp) base _ h v1
        have hcc := fun base h => hB c (by rw [hll]; simp) base _ h v2
        obtain ⟨w0, rfl, _⟩ := v0.open
        obtain ⟨w1, rfl, _⟩ := v1.open
        obtain ⟨w2, rfl, _⟩ := v2.open
        rw [hll, head3]
        generalize okK nameB 20 24 a = X0 at ha
        generalize okK nameB 7 7 b = X1 at hbb
        generalize okK nameB 7 7 c = X2 at hcc
        cases X0 <;> cases X1 <;> cases X2 <;> (simp only [SQ, SQB, oneCell, AOp.opds, Nat.reduceAdd, step, Opd.get, reduceCtorEq, slcLen, bin, binInt, reduceIte, Nat.reduceEqDiff, IntKind.signed, indexV, asNat?, loadV, cutCells, unary, evRess, evRes1, oneOrTup, wrapV, target, getsO, boundO, sliceV, exTo, Cp.isFull, isNil, moveV, Int.reduceLE, Int.reduceLT, Int.reduceEq, Int.reduceBEq, Int.reduceGT, Int.reduceGE, Nat.reduceLT, Nat.reduceLeDiff, SQX, V.cells, hk, take7, callD_ret (hb _ _), e1, Nat.reduceAdd, Int.cast_ofNat_Int, Int.reduceToNat, Int.toNat_zero, Int.toNat_one, Bool.and_false, Bool.false_and, callD_ret (ha _ _), callD_ret (hbb _ _), callD_ret (hcc _ _), hll]) <;> first | done | (simp; done)
      · have n2 : ¬ (x.l.length : Int) = 2 := by omega
        have n3 : ¬ (x.l.length : Int) = 3 := by omega
        (simp only [SQ, SQB, oneCell, AOp.opds, Nat.reduceAdd, step, Opd.get, reduceCtorEq, bin, binInt, reduceIte, Nat.reduceEqDiff, IntKind.signed, indexV, asNat?, loadV, cutCells, unary, evRess, evRes1, oneOrTup, wrapV, target, getsO, boundO, sliceV, exTo, Cp.isFull, isNil, moveV, Int.reduceLE, Int.reduceLT, Int.reduceEq, Int.reduceBEq, Int.reduceGT, Int.reduceGE, Nat.reduceLT, Nat.reduceLeDiff, SQX, V.cells, hk, hl.len, take7, callD_ret (hb _ _), e1, Bool.and_false, Bool.false_and, n2, n3, l2, l3, or_self, decide_false]) <;> first | done | (simp; done)
  by_cases hk : x.kind = 16
  · have hb := fun base h => blank_r (base := base) hv ⟨#[76]⟩ false false false false true h (by decide) (by decide) (by decide) (by decide) (by decide) (by decide)
    have he : okK nameB 8 19 x = mayN nameB x := by simp [okK, hk]
    rw [he, mayN_16 hk]
    rw [hk] at hb e1
    generalize hA : blankB nameB false false false false true x = A at hb
    cases A
    · (simp only [SQ, SQB, oneCell, AOp.opds, Nat.reduceAdd, step, Opd.get, reduceCtorEq, bin, binInt, reduceIte, Nat.reduceEqDiff, IntKind.signed, indexV, asNat?, loadV, cutCells, unary, evRess, evRes1, oneOrTup, wrapV, target, getsO, boundO, sliceV, exTo, Cp.isFull, isNil, moveV, Int.reduceLE, Int.reduceLT, Int.reduceEq, Int.reduceBEq, Int.reduceGT, Int.reduceGE, Nat.reduceLT, Nat.reduceLeDiff, SQX, V.cells, hk, hl.len, take7, callD_ret (hb _ _), e1, Bool.and_false, Bool.false_and]) <;> first | done | (simp; done)
    by_cases l2 : x.l.length = 2
    · skip
      obtain ⟨ex, r0, r1, a, b, rfl, hll, v0, v1⟩ := hl.two l2
      have ha := fun base h => hE a (by rw [hll]; simp) base _ h v0
      have hbb := fun base h => hB b (by rw [hll]; simp) base _ h v1
      obtain ⟨w0, rfl, _⟩ := v0.open
      obtain ⟨w1, rfl, _⟩ := v1.open
      rw [hll, head2]
      generalize okK nameB 20 24 a = X0 at ha
      generalize okK nameB 7 7 b = X1 at hbb
      cases X0 <;> cases X1 <;> (simp only [SQ, SQB, oneCell, AOp.opds, Nat.reduceAdd, step, Opd.get, reduceCtorEq, slcLen, bin, binInt, reduceIte, Nat.reduceEqDiff, IntKind.signed, indexV, asNat?, loadV, cutCells, unary, evRess, evRes1, oneOrTup, wrapV, target, getsO, boundO, sliceV, exTo, Cp.isFull, isNil, moveV, Int.reduceLE, Int.reduceLT, Int.reduceEq, Int.reduceBEq, Int.reduceGT, Int.reduceGE, Nat.reduceLT, Nat.reduceLeDiff, SQX, V.cells, hk, take7, callD_ret (hb _ _), e1, Nat.reduceAdd, Int.cast_ofNat_Int, Int.reduceToNat, Int.toNat_zero, Int.toNat_one, Bool.and_false, Bool.false_and, callD_ret (ha _ _), callD_ret (hbb _ _), hll]) <;> first | done | (simp; done)
    · have n2 : ¬ (x.l.length : Int) = 2 := by omega
      (simp only [SQ, SQB, oneCell, AOp.opds, Nat.reduceAdd, step, Opd.get, reduceCtorEq, bin, binInt, reduceIte, Nat.reduceEqDiff, IntKind.signed, indexV, asNat?, loadV, cutCells, unary, evRess, evRes1, oneOrTup, wrapV, target, getsO, boundO, sliceV, exTo, Cp.isFull, isNil, moveV, Int.reduceLE, Int.reduceLT, Int.reduceEq, Int.reduceBEq, Int.reduceGT, Int.reduceGE, Nat.reduceLT, Nat.reduceLeDiff, SQX, V.cells, hk, hl.len, take7, callD_ret (hb _ _), e1, Bool.and_false, Bool.false_and, n2, l2, decide_false]) <;> first | done | (simp; done)
  by_cases hk : x.kind = 17
  · have hb := fun base h => blank_r (base := base) hv ⟨#[76]⟩ false false false false true h (by decide) (by decide) (by decide) (by decide) (by decide) (by decide)
    have he : okK nameB 8 19 x = mayN nameB x := by simp [okK, hk]
    rw [he, mayN_17 hk]
    rw [hk] at hb e1
    generalize hA : blankB nameB false false false false true x = A at hb
    have he1 := fun base h => exprs_r (base := base) hl 1 h hE
    generalize hX1 : (decide ((x.l.length : Int) = 1) && allN nameB 20 24 x.l) = X1 at he1
    have hY1 : (decide (x.l.length = 1) && allN nameB 20 24 x.l) = X1 := by rw [← hX1]; congr 1; rw [decide_eq_decide]; omega
    rw [hY1]
    cases A
    · (simp only [SQ, SQB, oneCell, AOp.opds, Nat.reduceAdd, step, Opd.get, reduceCtorEq, bin, binInt, reduceIte, Nat.reduceEqDiff, IntKind.signed, indexV, asNat?, loadV, cutCells, unary, evRess, evRes1, oneOrTup, wrapV, target, getsO, boundO, sliceV, exTo, Cp.isFull, isNil, moveV, Int.reduceLE, Int.reduceLT, Int.reduceEq, Int.reduceBEq, Int.reduceGT, Int.reduceGE, Nat.reduceLT, Nat.reduceLeDiff, SQX, V.cells, hk, hl.len, take7, str_eq, callD_ret (hb _ _), callD_ret (he1 _ _), e1, e3, binStr, Bool.and_false, Bool.false_and, Bool.or_false, Bool.false_or, Bool.true_or, Bool.or_true]) <;> first | done | (simp; done) | (simp; omega) | omega
    · cases X1
      · (simp only [SQ, SQB, oneCell, AOp.opds, Nat.reduceAdd, step, Opd.get, reduceCtorEq, bin, binInt, reduceIte, Nat.reduceEqDiff, IntKind.signed, indexV, asNat?, loadV, cutCells, unary, evRess, evRes1, oneOrTup, wrapV, target, getsO, boundO, sliceV, exTo, Cp.isFull, isNil, moveV, Int.reduceLE, Int.reduceLT, Int.reduceEq, Int.reduceBEq, Int.reduceGT, Int.reduceGE, Nat.reduceLT, Nat.reduceLeDiff, SQX, V.cells, hk, hl.len, take7, str_eq, callD_ret (hb _ _), callD_ret (he1 _ _), e1, e3, binStr, Bool.and_false, Bool.false_and, Bool.or_false, Bool.false_or, Bool.true_or, Bool.or_true]) <;> first | done | (simp; done) | (simp; omega) | omega
      · (simp only [SQ, SQB, oneCell, AOp.opds, Nat.reduceAdd, step, Opd.get, reduceCtorEq, bin, binInt, reduceIte, Nat.reduceEqDiff, IntKind.signed, indexV, asNat?, loadV, cutCells, unary, evRess, evRes1, oneOrTup, wrapV, target, getsO, boundO, sliceV, exTo, Cp.isFull, isNil, moveV, Int.reduceLE, Int.reduceLT, Int.reduceEq, Int.reduceBEq, Int.reduceGT, Int.reduceGE, Nat.reduceLT, Nat.reduceLeDiff, SQX, V.cells, hk, hl.len, take7, str_eq, callD_ret (hb _ _), callD_ret (he1 _ _), e1, e3, binStr, Bool.and_false, Bool.false_and, Bool.or_false, Bool.false_or, Bool.true_or, Bool.or_true]) <;> first | done | (simp; done) | (simp; omega) | omega
  by_cases hk : x.kind = 18
  · have hb := fun base h => blank_r (base := base) hv ⟨#[83, 84, 76]⟩ true true false false true h (by decide) (by decide) (by decide) (by decide) (by decide) (by decide)
    have he : okK nameB 8 19 x = mayN nameB x := by simp [okK, hk]
    rw [he, mayN_18 hk]
    rw [hk] at hb e1
    generalize hA : blankB nameB true true false false true x = A at hb
    have hn1 := fun base h => refName_r (base := base) x.t h
    generalize hT1 : nameB x.t = N1 at hn1
    have he2 := fun base h => exprs_r (base := base) hl (x.l.length : Int) h hE
    generalize hX2 : (decide ((x.l.length : Int) = (x.l.length : Int)) && allN nameB 20 24 x.l) = X2 at he2
    have hY2 : allN nameB 20 24 x.l = X2 := by rw [← hX2]; simp
    rw [hY2]
    cases A
    · (simp only [SQ, SQB, oneCell, AOp.opds, Nat.reduceAdd, step, Opd.get, reduceCtorEq, bin, binInt, reduceIte, Nat.reduceEqDiff, IntKind.signed, indexV, asNat?, loadV, cutCells, unary, evRess, evRes1, oneOrTup, wrapV, target, getsO, boundO, sliceV, exTo, Cp.isFull, isNil, moveV, Int.reduceLE, Int.reduceLT, Int.reduceEq, Int.reduceBEq, Int.reduceGT, Int.reduceGE, Nat.reduceLT, Nat.reduceLeDiff, SQX, V.cells, hk, hl.len, take7, str_eq, callD_ret (hb _ _), callD_ret (hn1 _ _), callD_ret (he2 _ _), e1, e3, binStr, Bool.and_false, Bool.false_and, Bool.or_false, Bool.false_or, Bool.true_or, Bool.or_true]) <;> first | done | (simp; done) | (simp; omega) | omega
    · cases N1
      · (simp only [SQ, SQB, oneCell, AOp.opds, Nat.reduceAdd, step, Opd.get, reduceCtorEq, bin, binInt, reduceIte, Nat.reduceEqDiff, IntKind.signed, indexV, asNat?, loadV, cutCells, unary, evRess, evRes1, oneOrTup, wrapV, target, getsO, boundO, sliceV, exTo, Cp.isFull, isNil, moveV, Int.reduceLE, Int.reduceLT, Int.reduceEq, Int.reduceBEq, Int.reduceGT, Int.reduceGE, Nat.reduceLT, Nat.reduceLeDiff, SQX, V.cells, hk, hl.len, take7, str_eq, callD_ret (hb _ _), callD_ret (hn1 _ _), callD_ret (he2 _ _), e1, e3, binStr, Bool.and_false, Bool.false_and, Bool.or_false, Bool.false_or, Bool.true_or, Bool.or_true]) <;> first | done | (simp; done) | (simp; omega) | omega
      · cases X2
        · (simp only [SQ, SQB, oneCell, AOp.opds, Nat.reduceAdd, step, Opd.get, reduceCtorEq, bin, binInt, reduceIte, Nat.reduceEqDiff, IntKind.signed, indexV, asNat?, loadV, cutCells, unary, evRess, evRes1, oneOrTup, wrapV, target, getsO, boundO, sliceV, exTo, Cp.isFull, isNil, moveV, Int.reduceLE, Int.reduceLT, Int.reduceEq, Int.reduceBEq, Int.reduceGT, Int.reduceGE, Nat.reduceLT, Nat.reduceLeDiff, SQX, V.cells, hk, hl.len, take7, str_eq, callD_ret (hb _ _), callD_ret (hn1 _ _), callD_ret (he2 _ _), e1, e3, binStr, Bool.and_false, Bool.false_and, Bool.or_false, Bool.false_or, Bool.true_or, Bool.or_true]) <;> first | done | (simp; done) | (simp; omega) | omega
        · (simp only [SQ, SQB, oneCell, AOp.opds, Nat.reduceAdd, step, Opd.get, reduceCtorEq, bin, binInt, reduceIte, Nat.reduceEqDiff, IntKind.signed, indexV, asNat?, loadV, cutCells, unary, evRess, evRes1, oneOrTup, wrapV, target, getsO, boundO, sliceV, exTo, Cp.isFull, isNil, moveV, Int.reduceLE, Int.reduceLT, Int.reduceEq, Int.reduceBEq, Int.reduceGT, Int.reduceGE, Nat.reduceLT, Nat.reduceLeDiff, SQX, V.cells, hk, hl.len, take7, str_eq, callD_ret (hb _ _), callD_ret (hn1 _ _), callD_ret (he2 _ _), e1, e3, binStr, Bool.and_false, Bool.false_and, Bool.or_false, Bool.false_or, Bool.true_or, Bool.or_true]) <;> first | done | (simp; done) | (simp; omega) | omega
  by_cases hk : x.kind = 19
  · have hb := fun base h => blank_r (base := base) hv ⟨#[]⟩ false false false false false h (by decide) (by decide) (by decide) (by decide) (by decide) (by decide)
    have he : okK nameB 8 19 x = mayN nameB x := by simp [okK, hk]
    rw [he, mayN_19 hk]
    rw [hk] at hb e1
    generalize hA : blankB nameB false false false false false x = A at hb
    cases A
    · (simp only [SQ, SQB, oneCell, AOp.opds, Nat.reduceAdd, step, Opd.get, reduceCtorEq, bin, binInt, reduceIte, Nat.reduceEqDiff, IntKind.signed, indexV, asNat?, loadV, cutCells, unary, evRess, evRes1, oneOrTup, wrapV, target, getsO, boundO, sliceV, exTo, Cp.isFull, isNil, moveV, Int.reduceLE, Int.reduceLT, Int.reduceEq, Int.reduceBEq, Int.reduceGT, Int.reduceGE, Nat.reduceLT, Nat.reduceLeDiff, SQX, V.cells, hk, hl.len, take7, str_eq, callD_ret (hb _ _), e1, e3, binStr, Bool.and_false, Bool.false_and, Bool.or_false, Bool.false_or, Bool.true_or, Bool.or_true]) <;> first | done | (simp; done) | (simp; omega) | omega
    · (simp only [SQ, SQB, oneCell, AOp.opds, Nat.reduceAdd, step, Opd.get, reduceCtorEq, bin, binInt, reduceIte, Nat.reduceEqDiff, IntKind.signed, indexV, asNat?, loadV, cutCells, unary, evRess, evRes1, oneOrTup, wrapV, target, getsO, boundO, sliceV, exTo, Cp.isFull, isNil, moveV, Int.reduceLE, Int.reduceLT, Int.reduceEq, Int.reduceBEq, Int.reduceGT, Int.reduceGE, Nat.reduceLT, Nat.reduceLeDiff, SQX, V.cells, hk, hl.len, take7, str_eq, callD_ret (hb _ _), e1, e3, binStr, Bool.and_false, Bool.false_and, Bool.or_false, Bool.false_or, Bool.true_or, Bool.or_true]) <;> first | done | (simp; done) | (simp; omega) | omega
  have he : okK nameB 8 19 x = false := by
    unfold okK
    rw [decide_eq_false (by omega)]
    rfl
  rw [he]
  simp only [SQ, SQB, oneCell, AOp.opds, Nat.reduceAdd, step, Opd.get, reduceCtorEq, slcLen, bin, binInt, reduceIte, Nat.reduceEqDiff, IntKind.signed, indexV, asNat?, loadV, cutCells, unary, evRess, evRes1, oneOrTup, wrapV, target, getsO, boundO, sliceV, exTo, Cp.isFull, isNil, moveV, Int.reduceLE, Int.reduceLT, Int.reduceEq, Int.reduceBEq, Int.reduceGT, Int.reduceGE, Nat.reduceLT, Nat.reduceLeDiff, SQX, V.cells, e1, *]
end Go.Am
end
section
/- Am: the reference's items and programs. -/
set_option linter.unusedSimpArgs false
namespace Go.Am
abbrev ndC (x : Nd) (lv : V) : List V := [.sc (.int .i64 x.kind), .sc (.string x.s), .sc (.string x.t), .sc (.int .i64 x.n), .sc (.int .i64 x.ord), .sc (.int .i64 x.line), lv]
def ItemOk (x : Nd) : Prop := ∀ (base : Nat) (cs : List V) (h : Heap), NdV x cs → WpF S0 base k_spinnakerref23_item [.agg cs] h fun v h' => v = .bool (okK nameB 2 4 x) ∧ h' = h
def declB (k : Int) (y : Nd) : Bool := (decide (y.kind = 5) && blankB nameB true false false false false y) || (decide (y.kind = 6) && (blankB nameB true false true false false y && decide (0 ≤ y.n)) && decide (k = 4))
theorem decl_3 {y : Nd} : declB 3 y = okK nameB 5 5 y := by
  unfold declB okK
  by_cases h : y.kind = 5
  · rw [mayN_5 h]; simp [h]
  · have : ¬ (5 ≤ y.kind ∧ y.kind ≤ 5) := by omega
    simp [h, this]
theorem decl_4 {y : Nd} : declB 4 y = okK nameB 5 6 y := by
  unfold declB okK
  by_cases h : y.kind = 5
  · rw [mayN_5 h]; simp [h]
  · by_cases h6 : y.kind = 6
    · rw [mayN_6 h6]; simp [h6]
    · have : ¬ (5 ≤ y.kind ∧ y.kind ≤ 6) := by omega
      simp [h, h6, this]
def itemTail : ACode := match f_spinnakerref23_item.body with
  | .seq _ (.seq _ c) => c
  | _ => .fail
theorem body_item : f_spinnakerref23_item.body = .seq (match f_spinnakerref23_item.body with | .seq a _ => a | _ => .fail) (.seq (match f_spinnakerref23_item.body with | .seq _ (.seq a _) => a | _ => .fail) itemTail) := rfl
set_option maxHeartbeats 2000000 in
theorem tail_r {base : Nat} {x : Nd} {lv : V} {h : Heap} {en : Env} {Q : Ex → Env → Heap → Prop} (hl : LV lv x.l) (e1 : en 1 = .eptr (ndC x lv) 0) (ini : List Nd) (z : Nd) (hx : x.l = ini ++ [z])
    (hQ : ∀ en', en' 2 = .bool (ini.all (declB x.kind) && okK nameB 7 7 z) → Q .ret en' h) : WpC S0 base itemTail en h Q := by
  have hlen : x.l.length = ini.length + 1 := by rw [hx]; simp
  have ll := hl.len
  have lt := hl.lt
  have w : IntKind.wrap .i64 ((x.l.length : Int) - 1) = (ini.length : Int) := by rw [wrap_i64 (by omega) (by omega)]; omega
  simp only [itemTail, f_spinnakerref23_item]
  simp only [SQ, SQB, oneCell, AOp.opds, Nat.reduceAdd, step, Opd.get, reduceCtorEq, bin, binInt, reduceIte, Nat.reduceEqDiff, IntKind.signed, indexV, asNat?, loadV, cutCells, unary, evRess, evRes1, oneOrTup, wrapV, target, getsO, boundO, sliceV, exTo, Cp.isFull, isNil, moveV, Int.reduceLE, Int.reduceLT, Int.reduceEq, Int.reduceBEq, Int.reduceGT, Int.reduceGE, Nat.reduceLT, Nat.reduceLeDiff, SQX, V.cells, e1, ll, w]
  refine WpC_loopI (fun k en h' => ∃ i : Nat, k = ini.length - i ∧ i ≤ ini.length ∧ en 4 = V.int i ∧ en 1 = .eptr (ndC x lv) 0 ∧ en 3 = V.int ini.length ∧ (ini.take i).all (declB x.kind) = true ∧ h' = h) ini.length ⟨0, rfl, Nat.zero_le _, rfl, e1, rfl, rfl, rfl⟩ ?_
  clear e1
  rintro k en h' ⟨i, rfl, hi, e4, e1, e3, hall, rfl⟩
  by_cases h1 : i < ini.length
  · obtain ⟨r, hr1, hr2⟩ := hl.get (i := i) (by omega)
    have hxi : x.l[i] = ini[i] := by simp [hx, h1]
    rw [hxi] at hr2
    obtain ⟨lv2, rfl, hl2⟩ := hr2.open
    generalize hy : ini[i] = y at hr2 hl2 hr1
    have wi : IntKind.wrap .i64 ((i : Int) + 1) = ((i + 1 : Nat) : Int) := by rw [wrap_i64 (by omega) (by omega)]; rfl
    have hb1 := fun base h => blank_r (base := base) hr2 ⟨#[83]⟩ true false false false false h (by decide) (by decide) (by decide) (by decide) (by decide) (by decide)
    have hb2 := fun base h => blank_r (base := base) hr2 ⟨#[83, 78]⟩ true false true false false h (by decide) (by decide) (by decide) (by decide) (by decide) (by decide)
    have hd : declB x.kind ini[i] = ((decide (y.kind = 5) && blankB nameB true false false false false y) || (decide (y.kind = 6) && (blankB nameB true false true false false y && decide (0 ≤ y.n)) && decide (x.kind = 4))) := by rw [hy]; rfl
    generalize blankB nameB true false false false false y = B1 at hb1 hd
    generalize blankB nameB true false true false false y = B2 at hb2 hd
    have bad : declB x.kind ini[i] = false → (ini.all (declB x.kind) && okK nameB 7 7 z) = false := fun hd => by rw [all_not h1 hd]; rfl
    have good : declB x.kind ini[i] = true → ∃ j, j < ini.length - i ∧ ∃ i_1, j = ini.length - i_1 ∧ i_1 ≤ ini.length ∧ V.sc (.int .i64 ((i + 1 : Nat) : Int)) = V.int i_1 ∧ (ini.take i_1).all (declB x.kind) = true := fun hd =>
      ⟨ini.length - (i + 1), by omega, i + 1, rfl, by omega, rfl, take_all h1 hall hd⟩
    by_cases k5 : y.kind = 5
    · have n6 : ¬ y.kind = 6 := by omega
      rw [k5] at hb1 hb2 hr1
      cases B1
      · simp only [SQ, SQB, oneCell, AOp.opds, Nat.reduceAdd, step, Opd.get, reduceCtorEq, bin, binInt, reduceIte, Nat.reduceEqDiff, IntKind.signed, asNat?, loadV, cutCells, unary, evRess, evRes1, oneOrTup, wrapV, target, getsO, boundO, sliceV, exTo, Cp.isFull, isNil, moveV, Int.reduceLE, Int.reduceLT, Int.reduceEq, Int.reduceBEq, Int.reduceGT, Int.reduceGE, Nat.reduceLT, Nat.reduceLeDiff, SQX, V.cells, e4, e1, e3, h1, hr1, hl2.gr, take7, callD_ret (hb1 _ _)]
        refine hQ _ ?_
        rw [bad (by rw [hd]; simp [n6])]
        rfl
      · simp only [SQ, SQB, oneCell, AOp.opds, Nat.reduceAdd, step, Opd.get, reduceCtorEq, bin, binInt, reduceIte, Nat.reduceEqDiff, IntKind.signed, asNat?, loadV, cutCells, unary, evRess, evRes1, oneOrTup, wrapV, target, getsO, boundO, sliceV, exTo, Cp.isFull, isNil, moveV, Int.reduceLE, Int.reduceLT, Int.reduceEq, Int.reduceBEq, Int.reduceGT, Int.reduceGE, Nat.reduceLT, Nat.reduceLeDiff, SQX, V.cells, e4, e1, e3, h1, hr1, hl2.gr, take7, callD_ret (hb1 _ _), wi]
        exact good (by rw [hd]; simp [k5])
    · by_cases k6 : y.kind = 6
      · rw [k6] at hb1 hb2 hr1
        cases B2
        · simp only [SQ, SQB, oneCell, AOp.opds, Nat.reduceAdd, step, Opd.get, reduceCtorEq, bin, binInt, reduceIte, Nat.reduceEqDiff, IntKind.signed, asNat?, loadV, cutCells, unary, evRess, evRes1, oneOrTup, wrapV, target, getsO, boundO, sliceV, exTo, Cp.isFull, isNil, moveV, Int.reduceLE, Int.reduceLT, Int.reduceEq, Int.reduceBEq, Int.reduceGT, Int.reduceGE, Nat.reduceLT, Nat.reduceLeDiff, SQX, V.cells, e4, e1, e3, h1, hr1, hl2.gr, take7, callD_ret (hb2 _ _)]
          refine hQ _ ?_
          rw [bad (by rw [hd]; simp [k5])]
          rfl
        · by_cases hn : 0 ≤ y.n
          · by_cases k4 : x.kind = 4
            · simp only [SQ, SQB, oneCell, AOp.opds, Nat.reduceAdd, step, Opd.get, reduceCtorEq, bin, binInt, reduceIte, Nat.reduceEqDiff, IntKind.signed, asNat?, loadV, cutCells, unary, evRess, evRes1, oneOrTup, wrapV, target, getsO, boundO, sliceV, exTo, Cp.isFull, isNil, moveV, Int.reduceLE, Int.reduceLT, Int.reduceEq, Int.reduceBEq, Int.reduceGT, Int.reduceGE, Nat.reduceLT, Nat.reduceLeDiff, SQX, V.cells, e4, e1, e3, h1, hr1, hl2.gr, take7, callD_ret (hb2 _ _), hn, k4, wi]
              rw [← k4]
              exact good (by rw [hd]; simp [k6, hn, k4])
            · simp only [SQ, SQB, oneCell, AOp.opds, Nat.reduceAdd, step, Opd.get, reduceCtorEq, bin, binInt, reduceIte, Nat.reduceEqDiff, IntKind.signed, asNat?, loadV, cutCells, unary, evRess, evRes1, oneOrTup, wrapV, target, getsO, boundO, sliceV, exTo, Cp.isFull, isNil, moveV, Int.reduceLE, Int.reduceLT, Int.reduceEq, Int.reduceBEq, Int.reduceGT, Int.reduceGE, Nat.reduceLT, Nat.reduceLeDiff, SQX, V.cells, e4, e1, e3, h1, hr1, hl2.gr, take7, callD_ret (hb2 _ _), hn, k4]
              refine hQ _ ?_
              rw [bad (by rw [hd]; simp [k5, k4])]
              rfl
          · simp only [SQ, SQB, oneCell, AOp.opds, Nat.reduceAdd, step, Opd.get, reduceCtorEq, bin, binInt, reduceIte, Nat.reduceEqDiff, IntKind.signed, asNat?, loadV, cutCells, unary, evRess, evRes1, oneOrTup, wrapV, target, getsO, boundO, sliceV, exTo, Cp.isFull, isNil, moveV, Int.reduceLE, Int.reduceLT, Int.reduceEq, Int.reduceBEq, Int.reduceGT, Int.reduceGE, Nat.reduceLT, Nat.reduceLeDiff, SQX, V.cells, e4, e1, e3, h1, hr1, hl2.gr, take7, callD_ret (hb2 _ _), hn]
            refine hQ _ ?_
            rw [bad (by rw [hd]; simp [k5, hn])]
            rfl
      · simp only [SQ, SQB, oneCell, AOp.opds, Nat.reduceAdd, step, Opd.get, reduceCtorEq, bin, binInt, reduceIte, Nat.reduceEqDiff, IntKind.signed, asNat?, loadV, cutCells, unary, evRess, evRes1, oneOrTup, wrapV, target, getsO, boundO, sliceV, exTo, Cp.isFull, isNil, moveV, Int.reduceLE, Int.reduceLT, Int.reduceEq, Int.reduceBEq, Int.reduceGT, Int.reduceGE, Nat.reduceLT, Nat.reduceLeDiff, SQX, V.cells, e4, e1, e3, h1, hr1, hl2.gr, take7, k5, k6]
        refine hQ _ ?_
        rw [bad (by rw [hd]; simp [k5, k6])]
        rfl
  · have hii : i = ini.length := by omega
    subst hii
    rw [List.take_length] at hall
    obtain ⟨r, hr1, hr2⟩ := hl.get (i := ini.length) (by omega)
    have hxi : x.l[ini.length] = z := by simp [hx]
    rw [hxi] at hr2
    obtain ⟨lv2, rfl, hl2⟩ := hr2.open
    have hbk := fun base h => block_of (fun y _ => stmt_r _ y (Nat.le_refl _)) base _ h hr2
    simp only [SQ, SQB, oneCell, AOp.opds, Nat.reduceAdd, step, Opd.get, reduceCtorEq, bin, binInt, reduceIte, Nat.reduceEqDiff, IntKind.signed, asNat?, loadV, cutCells, unary, evRess, evRes1, oneOrTup, wrapV, target, getsO, boundO, sliceV, exTo, Cp.isFull, isNil, moveV, Int.reduceLE, Int.reduceLT, Int.reduceEq, Int.reduceBEq, Int.reduceGT, Int.reduceGE, Nat.reduceLT, Nat.reduceLeDiff, SQX, V.cells, e4, e1, e3, h1, hr1, take7, callD_ret (hbk _ _)]
    refine hQ _ ?_
    rw [hall]
    rfl
end Go.Am
end
section
/- Am: the reference's items and programs, whole. -/
set_option linter.unusedSimpArgs false
namespace Go.Am
theorem split_last {l : List Nd} (h : 0 < l.length) : ∃ ini z, l = ini ++ [z] :=
  ⟨l.dropLast, l.getLast (by intro e; rw [e] at h; simp at h), (List.dropLast_concat_getLast _).symm⟩
set_option maxHeartbeats 2000000 in
theorem item_r (x : Nd) : ItemOk x := by
  intro base cs h hv
  first | refine WpF_pure (A := f_spinnakerref23_item) rfl rfl rfl rfl ?_ | refine WpF_imp (A := f_spinnakerref23_item) rfl rfl rfl rfl ?_
  obtain ⟨lv, rfl, hl⟩ := hv.open
  have ll := hl.len
  rw [body_item]
  refine WpC_cut (fun en' h' => en' 1 = .eptr (ndC x lv) 0 ∧ h' = h) ?_ ?_
  · simp only [f_spinnakerref23_item]
    simp only [SQ, SQB, oneCell, AOp.opds, Nat.reduceAdd, step, Opd.get, reduceCtorEq, slcLen, bin, binInt, reduceIte, Nat.reduceEqDiff, IntKind.signed, indexV, asNat?, loadV, cutCells, unary, evRess, evRes1, oneOrTup, wrapV, target, getsO, boundO, sliceV, exTo, Cp.isFull, isNil, moveV, Int.reduceLE, Int.reduceLT, Int.reduceEq, Int.reduceBEq, Int.reduceGT, Int.reduceGE, Nat.reduceLT, Nat.reduceLeDiff, SQX, V.cells, hl.gr]
  rintro en1 h1 ⟨e1, rfl⟩
  have e1' := e1
  simp only [ndC] at e1
  rw [WpC_seqD]
  simp only [f_spinnakerref23_item]
  by_cases hk : x.kind = 2
  · have hb := fun base h => blank_r (base := base) hv ⟨#[83, 78]⟩ true false true false false h (by decide) (by decide) (by decide) (by decide) (by decide) (by decide)
    have he : okK nameB 2 4 x = mayN nameB x := by simp [okK, hk]
    rw [he, mayN_2 hk]
    rw [hk] at hb e1
    simp only [SQ, SQB, oneCell, AOp.opds, Nat.reduceAdd, step, Opd.get, reduceCtorEq, slcLen, bin, binInt, reduceIte, Nat.reduceEqDiff, IntKind.signed, indexV, asNat?, loadV, cutCells, unary, evRess, evRes1, oneOrTup, wrapV, target, getsO, boundO, sliceV, exTo, Cp.isFull, isNil, moveV, Int.reduceLE, Int.reduceLT, Int.reduceEq, Int.reduceBEq, Int.reduceGT, Int.reduceGE, Nat.reduceLT, Nat.reduceLeDiff, SQX, V.cells, e1, hk, take7, callD_ret (hb _ _)]
  by_cases hk3 : x.kind = 3
  · have hb := fun base h => blank_r (base := base) hv ⟨#[83, 78, 76]⟩ true false true false true h (by decide) (by decide) (by decide) (by decide) (by decide) (by decide)
    have he : okK nameB 2 4 x = mayN nameB x := by simp [okK, hk3]
    rw [he, mayN_3 hk3]
    rw [hk3] at hb e1
    generalize blankB nameB true false true false true x = A at hb
    cases A
    · simp only [SQ, SQB, oneCell, AOp.opds, Nat.reduceAdd, step, Opd.get, reduceCtorEq, bin, binInt, reduceIte, Nat.reduceEqDiff, IntKind.signed, indexV, asNat?, loadV, cutCells, unary, evRess, evRes1, oneOrTup, wrapV, target, getsO, boundO, sliceV, exTo, Cp.isFull, isNil, moveV, Int.reduceLE, Int.reduceLT, Int.reduceEq, Int.reduceBEq, Int.reduceGT, Int.reduceGE, Nat.reduceLT, Nat.reduceLeDiff, SQX, V.cells, e1, hk3, take7, callD_ret (hb _ _), Bool.false_and]
    · by_cases h0 : 0 ≤ x.n
      · have h0' : ¬ x.n < 0 := by omega
        by_cases hn : x.n < x.l.length
        · have hn' : ¬ (x.l.length : Int) ≤ x.n := by omega
          simp only [SQ, SQB, oneCell, AOp.opds, Nat.reduceAdd, step, Opd.get, reduceCtorEq, bin, binInt, reduceIte, Nat.reduceEqDiff, IntKind.signed, indexV, asNat?, loadV, cutCells, unary, evRess, evRes1, oneOrTup, wrapV, target, getsO, boundO, sliceV, exTo, Cp.isFull, isNil, moveV, Int.reduceLE, Int.reduceLT, Int.reduceEq, Int.reduceBEq, Int.reduceGT, Int.reduceGE, Nat.reduceLT, Nat.reduceLeDiff, SQX, V.cells, e1, hk3, take7, callD_ret (hb _ _), h0', hn', ll]
          obtain ⟨ini, z, hx⟩ := split_last (l := x.l) (by omega)
          refine tail_r hl (by simpa [put_app] using e1') ini z hx fun en' e2 => ?_
          simp only [SQ, SQB, oneCell, AOp.opds, Nat.reduceAdd, step, Opd.get, reduceCtorEq, slcLen, bin, binInt, reduceIte, Nat.reduceEqDiff, IntKind.signed, indexV, asNat?, loadV, cutCells, unary, evRess, evRes1, oneOrTup, wrapV, target, getsO, boundO, sliceV, exTo, Cp.isFull, isNil, moveV, Int.reduceLE, Int.reduceLT, Int.reduceEq, Int.reduceBEq, Int.reduceGT, Int.reduceGE, Nat.reduceLT, Nat.reduceLeDiff, SQX, V.cells, e2, h0, hn]
          rw [hx, lastN_all, hk3, funext (fun y => decl_3 (y := y))]
        · have hn' : (x.l.length : Int) ≤ x.n := by omega
          simp only [SQ, SQB, oneCell, AOp.opds, Nat.reduceAdd, step, Opd.get, reduceCtorEq, bin, binInt, reduceIte, Nat.reduceEqDiff, IntKind.signed, indexV, asNat?, loadV, cutCells, unary, evRess, evRes1, oneOrTup, wrapV, target, getsO, boundO, sliceV, exTo, Cp.isFull, isNil, moveV, Int.reduceLE, Int.reduceLT, Int.reduceEq, Int.reduceBEq, Int.reduceGT, Int.reduceGE, Nat.reduceLT, Nat.reduceLeDiff, SQX, V.cells, e1, hk3, take7, callD_ret (hb _ _), h0', hn', ll, hn, Bool.false_and, Bool.and_false]
      · have h0' : x.n < 0 := by omega
        simp only [SQ, SQB, oneCell, AOp.opds, Nat.reduceAdd, step, Opd.get, reduceCtorEq, bin, binInt, reduceIte, Nat.reduceEqDiff, IntKind.signed, indexV, asNat?, loadV, cutCells, unary, evRess, evRes1, oneOrTup, wrapV, target, getsO, boundO, sliceV, exTo, Cp.isFull, isNil, moveV, Int.reduceLE, Int.reduceLT, Int.reduceEq, Int.reduceBEq, Int.reduceGT, Int.reduceGE, Nat.reduceLT, Nat.reduceLeDiff, SQX, V.cells, e1, hk3, take7, callD_ret (hb _ _), h0', h0, Bool.false_and, Bool.and_false]
  by_cases hk4 : x.kind = 4
  · have hb := fun base h => blank_r (base := base) hv ⟨#[76]⟩ false false false false true h (by decide) (by decide) (by decide) (by decide) (by decide) (by decide)
    have he : okK nameB 2 4 x = mayN nameB x := by simp [okK, hk4]
    rw [he, mayN_4 hk4]
    rw [hk4] at hb e1
    generalize blankB nameB false false false false true x = A at hb
    cases A
    · simp only [SQ, SQB, oneCell, AOp.opds, Nat.reduceAdd, step, Opd.get, reduceCtorEq, bin, binInt, reduceIte, Nat.reduceEqDiff, IntKind.signed, indexV, asNat?, loadV, cutCells, unary, evRess, evRes1, oneOrTup, wrapV, target, getsO, boundO, sliceV, exTo, Cp.isFull, isNil, moveV, Int.reduceLE, Int.reduceLT, Int.reduceEq, Int.reduceBEq, Int.reduceGT, Int.reduceGE, Nat.reduceLT, Nat.reduceLeDiff, SQX, V.cells, e1, hk4, take7, callD_ret (hb _ _), Bool.false_and]
    · by_cases h0 : x.l.length = 0
      · have h0' : (x.l.length : Int) = 0 := by omega
        have hf : lastN nameB 5 6 x.l = false := by rw [List.eq_nil_of_length_eq_zero h0]; rfl
        simp only [SQ, SQB, oneCell, AOp.opds, Nat.reduceAdd, step, Opd.get, reduceCtorEq, bin, binInt, reduceIte, Nat.reduceEqDiff, IntKind.signed, indexV, asNat?, loadV, cutCells, unary, evRess, evRes1, oneOrTup, wrapV, target, getsO, boundO, sliceV, exTo, Cp.isFull, isNil, moveV, Int.reduceLE, Int.reduceLT, Int.reduceEq, Int.reduceBEq, Int.reduceGT, Int.reduceGE, Nat.reduceLT, Nat.reduceLeDiff, SQX, V.cells, e1, hk4, take7, callD_ret (hb _ _), h0', ll, hf, Bool.and_false]
      · have h0' : ¬ (x.l.length : Int) = 0 := by omega
        simp only [SQ, SQB, oneCell, AOp.opds, Nat.reduceAdd, step, Opd.get, reduceCtorEq, bin, binInt, reduceIte, Nat.reduceEqDiff, IntKind.signed, indexV, asNat?, loadV, cutCells, unary, evRess, evRes1, oneOrTup, wrapV, target, getsO, boundO, sliceV, exTo, Cp.isFull, isNil, moveV, Int.reduceLE, Int.reduceLT, Int.reduceEq, Int.reduceBEq, Int.reduceGT, Int.reduceGE, Nat.reduceLT, Nat.reduceLeDiff, SQX, V.cells, e1, hk4, take7, callD_ret (hb _ _), h0', ll]
        obtain ⟨ini, z, hx⟩ := split_last (l := x.l) (by omega)
        refine tail_r hl (by simpa [put_app] using e1') ini z hx fun en' e2 => ?_
        simp only [SQ, SQB, oneCell, AOp.opds, Nat.reduceAdd, step, Opd.get, reduceCtorEq, slcLen, bin, binInt, reduceIte, Nat.reduceEqDiff, IntKind.signed, indexV, asNat?, loadV, cutCells, unary, evRess, evRes1, oneOrTup, wrapV, target, getsO, boundO, sliceV, exTo, Cp.isFull, isNil, moveV, Int.reduceLE, Int.reduceLT, Int.reduceEq, Int.reduceBEq, Int.reduceGT, Int.reduceGE, Nat.reduceLT, Nat.reduceLeDiff, SQX, V.cells, e2]
        rw [hx, lastN_all, hk4, funext (fun y => decl_4 (y := y))]
  have he : okK nameB 2 4 x = false := by
    unfold okK
    rw [decide_eq_false (by omega)]
    rfl
  rw [he]
  simp only [SQ, SQB, oneCell, AOp.opds, Nat.reduceAdd, step, Opd.get, reduceCtorEq, slcLen, bin, binInt, reduceIte, Nat.reduceEqDiff, IntKind.signed, indexV, asNat?, loadV, cutCells, unary, evRess, evRes1, oneOrTup, wrapV, target, getsO, boundO, sliceV, exTo, Cp.isFull, isNil, moveV, Int.reduceLE, Int.reduceLT, Int.reduceEq, Int.reduceBEq, Int.reduceGT, Int.reduceGE, Nat.reduceLT, Nat.reduceLeDiff, SQX, V.cells, e1, hk, hk3, hk4]
set_option maxHeartbeats 2000000 in
theorem refMay_r {base : Nat} {x : Nd} {cs : List V} (h : Heap) (hv : NdV x cs) : WpF S0 base k_spinnakerref23_May [.agg cs] h fun v h' => v = .bool (okK nameB 1 1 x) ∧ h' = h := by
  first | refine WpF_pure (A := f_spinnakerref23_May) rfl rfl rfl rfl ?_ | refine WpF_imp (A := f_spinnakerref23_May) rfl rfl rfl rfl ?_
  obtain ⟨lv, rfl, hl⟩ := hv.open
  simp only [f_spinnakerref23_May]
  refine WpC_cut (fun en' h' => en' 1 = .eptr (ndC x lv) 0 ∧ h' = h) ?_ ?_
  · simp only [SQ, SQB, oneCell, AOp.opds, Nat.reduceAdd, step, Opd.get, reduceCtorEq, slcLen, bin, binInt, reduceIte, Nat.reduceEqDiff, IntKind.signed, indexV, asNat?, loadV, cutCells, unary, evRess, evRes1, oneOrTup, wrapV, target, getsO, boundO, sliceV, exTo, Cp.isFull, isNil, moveV, Int.reduceLE, Int.reduceLT, Int.reduceEq, Int.reduceBEq, Int.reduceGT, Int.reduceGE, Nat.reduceLT, Nat.reduceLeDiff, SQX, V.cells, hl.gr]
  rintro en1 h1 ⟨e1, rfl⟩
  have e1' := e1
  simp only [ndC] at e1
  by_cases hk : x.kind = 1
  · have hb := fun base h => blank_r (base := base) hv ⟨#[76]⟩ false false false false true h (by decide) (by decide) (by decide) (by decide) (by decide) (by decide)
    have he : okK nameB 1 1 x = mayN nameB x := by simp [okK, hk]
    rw [he, mayN_1 hk, allN_all]
    rw [hk] at hb e1
    have ll := hl.len
    have lt := hl.lt
    generalize hA : blankB nameB false false false false true x = A at hb
    cases A
    · simp only [SQ, SQB, oneCell, AOp.opds, Nat.reduceAdd, step, Opd.get, reduceCtorEq, bin, binInt, reduceIte, Nat.reduceEqDiff, IntKind.signed, indexV, asNat?, loadV, cutCells, unary, evRess, evRes1, oneOrTup, wrapV, target, getsO, boundO, sliceV, exTo, Cp.isFull, isNil, moveV, Int.reduceLE, Int.reduceLT, Int.reduceEq, Int.reduceBEq, Int.reduceGT, Int.reduceGE, Nat.reduceLT, Nat.reduceLeDiff, SQX, V.cells, e1, hk, take7, callD_ret (hb _ _), Bool.false_and]
    · simp only [SQ, SQB, oneCell, AOp.opds, Nat.reduceAdd, step, Opd.get, reduceCtorEq, bin, binInt, reduceIte, Nat.reduceEqDiff, IntKind.signed, indexV, asNat?, loadV, cutCells, unary, evRess, evRes1, oneOrTup, wrapV, target, getsO, boundO, sliceV, exTo, Cp.isFull, isNil, moveV, Int.reduceLE, Int.reduceLT, Int.reduceEq, Int.reduceBEq, Int.reduceGT, Int.reduceGE, Nat.reduceLT, Nat.reduceLeDiff, SQX, V.cells, e1, hk, take7, callD_ret (hb _ _), Bool.true_and]
      refine WpC_loopI (fun k en h' => ∃ i : Nat, k = x.l.length - i ∧ i ≤ x.l.length ∧ en 3 = V.int i ∧ en 1 = en1 1 ∧ (x.l.take i).all (okK nameB 2 4) = true ∧ h' = h1) x.l.length ⟨0, rfl, Nat.zero_le _, rfl, rfl, rfl, rfl⟩ ?_
      rintro k en h' ⟨i, rfl, hi, e3, e0, hall, rfl⟩
      rw [e1] at e0
      by_cases h1 : i < x.l.length
      · obtain ⟨r, hr1, hr2⟩ := hl.get h1
        obtain ⟨lv2, rfl, _⟩ := hr2.open
        have hc := fun base h => item_r x.l[i] base _ h hr2
        cases hk : okK nameB 2 4 x.l[i]
        · rw [hk] at hc
          simp only [SQ, SQB, oneCell, AOp.opds, Nat.reduceAdd, step, Opd.get, reduceCtorEq, bin, binInt, reduceIte, Nat.reduceEqDiff, IntKind.signed, asNat?, loadV, cutCells, unary, evRess, evRes1, oneOrTup, wrapV, target, getsO, boundO, sliceV, exTo, Cp.isFull, isNil, moveV, Int.reduceLE, Int.reduceLT, Int.reduceEq, Int.reduceBEq, Int.reduceGT, Int.reduceGE, Nat.reduceLT, Nat.reduceLeDiff, SQX, V.cells, e3, e0, ll, h1, hr1, take7, callD_ret (hc _ _), all_not h1 hk]
        · rw [hk] at hc
          simp only [SQ, SQB, oneCell, AOp.opds, Nat.reduceAdd, step, Opd.get, reduceCtorEq, bin, binInt, reduceIte, Nat.reduceEqDiff, IntKind.signed, asNat?, loadV, cutCells, unary, evRess, evRes1, oneOrTup, wrapV, target, getsO, boundO, sliceV, exTo, Cp.isFull, isNil, moveV, Int.reduceLE, Int.reduceLT, Int.reduceEq, Int.reduceBEq, Int.reduceGT, Int.reduceGE, Nat.reduceLT, Nat.reduceLeDiff, SQX, V.cells, e3, e0, ll, h1, hr1, take7, callD_ret (hc _ _)]
          exact ⟨x.l.length - (i + 1), by omega, i + 1, rfl, by omega, by rw [wrap_i64 (by omega) (by omega)]; rfl, e1.symm, take_all h1 hall hk⟩
      · have : x.l.take i = x.l := List.take_of_length_le (by omega)
        rw [this] at hall
        simp only [SQ, SQB, oneCell, AOp.opds, Nat.reduceAdd, step, Opd.get, reduceCtorEq, bin, binInt, reduceIte, Nat.reduceEqDiff, IntKind.signed, asNat?, loadV, cutCells, unary, evRess, evRes1, oneOrTup, wrapV, target, getsO, boundO, sliceV, exTo, Cp.isFull, isNil, moveV, Int.reduceLE, Int.reduceLT, Int.reduceEq, Int.reduceBEq, Int.reduceGT, Int.reduceGE, Nat.reduceLT, Nat.reduceLeDiff, SQX, V.cells, e3, e0, ll, h1, hall]
  · have he : okK nameB 1 1 x = false := by
      unfold okK
      rw [decide_eq_false (by omega)]
      rfl
    rw [he]
    simp only [SQ, SQB, oneCell, AOp.opds, Nat.reduceAdd, step, Opd.get, reduceCtorEq, slcLen, bin, binInt, reduceIte, Nat.reduceEqDiff, IntKind.signed, indexV, asNat?, loadV, cutCells, unary, evRess, evRes1, oneOrTup, wrapV, target, getsO, boundO, sliceV, exTo, Cp.isFull, isNil, moveV, Int.reduceLE, Int.reduceLT, Int.reduceEq, Int.reduceBEq, Int.reduceGT, Int.reduceGE, Nat.reduceLT, Nat.reduceLeDiff, SQX, V.cells, e1, hk]
end Go.Am
end
section
/- Am: the reference's kinds of names. -/
set_option linter.unusedSimpArgs false
namespace Go.Am
theorem foldl_take {α β : Type} {f : β → α → β} {b : β} {l : List α} {i : Nat} (hi : i < l.length) : (l.take (i + 1)).foldl f b = f ((l.take i).foldl f b) l[i] := by
  rw [List.take_add_one, List.getElem?_eq_getElem hi, List.foldl_append]; rfl
def gStep (s : ByteArray) (a : Int) (y : Nd) : Int := if (y.s.toList == s.toList) = true then (if y.kind = 2 then 3 else if y.kind = 3 then 4 else a) else a
def globN (s : ByteArray) (l : List Nd) : Int := l.foldl (gStep s) 0
set_option maxHeartbeats 2000000 in
theorem global_r {base : Nat} {x : Nd} {cs : List V} (s : ByteArray) (h : Heap) (hv : NdV x cs) : WpF S0 base k_spinnakerref25_global [.agg cs, .sc (.string s)] h fun v h' => v = .sc (.int .i64 (globN s x.l)) ∧ h' = h := by
  obtain ⟨lv, rfl, hl⟩ := hv.open
  have ll := hl.len
  have lt := hl.lt
  first | refine WpF_pure (A := f_spinnakerref25_global) rfl rfl rfl rfl ?_ | refine WpF_imp (A := f_spinnakerref25_global) rfl rfl rfl rfl ?_
  simp only [f_spinnakerref25_global]
  refine WpC_cut (fun en' h' => en' 2 = .eptr (ndC x lv) 0 ∧ en' 1 = .sc (.string s) ∧ h' = h) ?_ ?_
  · simp only [SQ, SQB, oneCell, AOp.opds, Nat.reduceAdd, step, Opd.get, reduceCtorEq, slcLen, bin, binInt, reduceIte, Nat.reduceEqDiff, IntKind.signed, indexV, asNat?, loadV, cutCells, unary, evRess, evRes1, oneOrTup, wrapV, target, getsO, boundO, sliceV, exTo, Cp.isFull, isNil, moveV, Int.reduceLE, Int.reduceLT, Int.reduceEq, Int.reduceBEq, Int.reduceGT, Int.reduceGE, Nat.reduceLT, Nat.reduceLeDiff, SQX, V.cells, hl.gr]
  rintro en1 h1 ⟨e2, e1, rfl⟩
  simp only [SQ, SQB, oneCell, AOp.opds, Nat.reduceAdd, step, Opd.get, reduceCtorEq, slcLen, bin, binInt, reduceIte, Nat.reduceEqDiff, IntKind.signed, indexV, asNat?, loadV, cutCells, unary, evRess, evRes1, oneOrTup, wrapV, target, getsO, boundO, sliceV, exTo, Cp.isFull, isNil, moveV, Int.reduceLE, Int.reduceLT, Int.reduceEq, Int.reduceBEq, Int.reduceGT, Int.reduceGE, Nat.reduceLT, Nat.reduceLeDiff, SQX, V.cells, e1, e2]
  refine WpC_loopI (fun k en h' => ∃ i : Nat, k = x.l.length - i ∧ i ≤ x.l.length ∧ en 6 = V.int i ∧ en 2 = .eptr (ndC x lv) 0 ∧ en 1 = .sc (.string s) ∧ en 5 = .sc (.int .i64 ((x.l.take i).foldl (gStep s) 0)) ∧ h' = h1) x.l.length ⟨0, rfl, Nat.zero_le _, rfl, e2, e1, rfl, rfl⟩ ?_
  rintro k en h' ⟨i, rfl, hi, g6, g2, g1, g5, rfl⟩
  by_cases hh : i < x.l.length
  · obtain ⟨r, hr1, hr2⟩ := hl.get hh
    obtain ⟨lv2, rfl, _⟩ := hr2.open
    have hf : (x.l.take (i + 1)).foldl (gStep s) 0 = if (x.l[i].s.toList == s.toList) = true then (if x.l[i].kind = 2 then 3 else if x.l[i].kind = 3 then 4 else (x.l.take i).foldl (gStep s) 0) else (x.l.take i).foldl (gStep s) 0 := foldl_take hh
    generalize hA : (x.l.take i).foldl (gStep s) 0 = A at hf g5
    cases c0 : x.l[i].s.toList == s.toList
    · rw [c0, if_neg (by simp)] at hf
      simp only [SQ, SQB, oneCell, AOp.opds, Nat.reduceAdd, step, Opd.get, reduceCtorEq, bin, binInt, reduceIte, Nat.reduceEqDiff, IntKind.signed, asNat?, loadV, cutCells, unary, evRess, evRes1, oneOrTup, wrapV, target, getsO, boundO, sliceV, exTo, Cp.isFull, isNil, moveV, Int.reduceLE, Int.reduceLT, Int.reduceEq, Int.reduceBEq, Int.reduceGT, Int.reduceGE, Nat.reduceLT, Nat.reduceLeDiff, SQX, V.cells, g6, g2, g1, g5, ll, hh, hr1, take7, binStr, c0]
      exact ⟨x.l.length - (i + 1), by omega, i + 1, rfl, by omega, by rw [wrap_i64 (by omega) (by omega)]; rfl, by rw [hf]⟩
    rw [c0, if_pos rfl] at hf
    by_cases k2 : x.l[i].kind = 2
    · have d2 := decide_eq_true k2
      have d3 := decide_eq_false (show ¬ x.l[i].kind = 3 by omega)
      rw [if_pos k2] at hf
      simp only [SQ, SQB, oneCell, AOp.opds, Nat.reduceAdd, step, Opd.get, reduceCtorEq, bin, binInt, reduceIte, Nat.reduceEqDiff, IntKind.signed, asNat?, loadV, cutCells, unary, evRess, evRes1, oneOrTup, wrapV, target, getsO, boundO, sliceV, exTo, Cp.isFull, isNil, moveV, Int.reduceLE, Int.reduceLT, Int.reduceEq, Int.reduceBEq, Int.reduceGT, Int.reduceGE, Nat.reduceLT, Nat.reduceLeDiff, SQX, V.cells, g6, g2, g1, g5, ll, hh, hr1, take7, binStr, c0, d2, d3]
      exact ⟨x.l.length - (i + 1), by omega, i + 1, rfl, by omega, by rw [wrap_i64 (by omega) (by omega)]; rfl, by rw [hf]⟩
    have d2 := decide_eq_false k2
    rw [if_neg k2] at hf
    by_cases k3 : x.l[i].kind = 3
    · have d3 := decide_eq_true k3
      rw [if_pos k3] at hf
      simp only [SQ, SQB, oneCell, AOp.opds, Nat.reduceAdd, step, Opd.get, reduceCtorEq, bin, binInt, reduceIte, Nat.reduceEqDiff, IntKind.signed, asNat?, loadV, cutCells, unary, evRess, evRes1, oneOrTup, wrapV, target, getsO, boundO, sliceV, exTo, Cp.isFull, isNil, moveV, Int.reduceLE, Int.reduceLT, Int.reduceEq, Int.reduceBEq, Int.reduceGT, Int.reduceGE, Nat.reduceLT, Nat.reduceLeDiff, SQX, V.cells, g6, g2, g1, g5, ll, hh, hr1, take7, binStr, c0, d2, d3]
      exact ⟨x.l.length - (i + 1), by omega, i + 1, rfl, by omega, by rw [wrap_i64 (by omega) (by omega)]; rfl, by rw [hf]⟩
    · have d3 := decide_eq_false k3
      rw [if_neg k3] at hf
      simp only [SQ, SQB, oneCell, AOp.opds, Nat.reduceAdd, step, Opd.get, reduceCtorEq, bin, binInt, reduceIte, Nat.reduceEqDiff, IntKind.signed, asNat?, loadV, cutCells, unary, evRess, evRes1, oneOrTup, wrapV, target, getsO, boundO, sliceV, exTo, Cp.isFull, isNil, moveV, Int.reduceLE, Int.reduceLT, Int.reduceEq, Int.reduceBEq, Int.reduceGT, Int.reduceGE, Nat.reduceLT, Nat.reduceLeDiff, SQX, V.cells, g6, g2, g1, g5, ll, hh, hr1, take7, binStr, c0, d2, d3]
      exact ⟨x.l.length - (i + 1), by omega, i + 1, rfl, by omega, by rw [wrap_i64 (by omega) (by omega)]; rfl, by rw [hf]⟩
  · have : x.l.take i = x.l := List.take_of_length_le (by omega)
    rw [this] at g5
    simp only [SQ, SQB, oneCell, AOp.opds, Nat.reduceAdd, step, Opd.get, reduceCtorEq, bin, binInt, reduceIte, Nat.reduceEqDiff, IntKind.signed, asNat?, loadV, cutCells, unary, evRess, evRes1, oneOrTup, wrapV, target, getsO, boundO, sliceV, exTo, Cp.isFull, isNil, moveV, Int.reduceLE, Int.reduceLT, Int.reduceEq, Int.reduceBEq, Int.reduceGT, Int.reduceGE, Nat.reduceLT, Nat.reduceLeDiff, SQX, V.cells, g6, g2, g1, g5, ll, hh, globN]
def lStep (s : ByteArray) (a : Int) (y : Nd) : Int := if (y.s.toList == s.toList) = true then (if y.kind = 5 then 1 else if y.kind = 6 then 2 else a) else a
def locN (s : ByteArray) (x : Nd) : Int := x.l.foldl (lStep s) (if x.kind = 3 ∧ (s.toList == (⟨#[114, 101, 115, 117, 108, 116]⟩ : ByteArray).toList) = true then 1 else 0)
def kindN (s : ByteArray) (p x : Nd) : Int := if locN s x = 0 then globN s p.l else locN s x
set_option maxHeartbeats 4000000 in
theorem refKind_r {base : Nat} {p x : Nd} {cp cs : List V} (s : ByteArray) (h : Heap) (hp : NdV p cp) (hv : NdV x cs) : WpF S0 base k_spinnakerref25_Kind [.agg cp, .agg cs, .sc (.string s)] h fun v h' => v = .sc (.int .i64 (kindN s p x)) ∧ h' = h := by
  have hglob := fun base h => global_r (base := base) s h hp
  obtain ⟨lp, rfl, hlp⟩ := hp.open
  obtain ⟨lv, rfl, hl⟩ := hv.open
  have ll := hl.len
  have lt := hl.lt
  first | refine WpF_pure (A := f_spinnakerref25_Kind) rfl rfl rfl rfl ?_ | refine WpF_imp (A := f_spinnakerref25_Kind) rfl rfl rfl rfl ?_
  simp only [f_spinnakerref25_Kind]
  refine WpC_cut (fun en' h' => en' 3 = .eptr (ndC p lp) 0 ∧ en' 4 = .eptr (ndC x lv) 0 ∧ en' 2 = .sc (.string s) ∧ h' = h) ?_ ?_
  · simp only [SQ, SQB, oneCell, AOp.opds, Nat.reduceAdd, step, Opd.get, reduceCtorEq, slcLen, bin, binInt, reduceIte, Nat.reduceEqDiff, IntKind.signed, indexV, asNat?, loadV, cutCells, unary, evRess, evRes1, oneOrTup, wrapV, target, getsO, boundO, sliceV, exTo, Cp.isFull, isNil, moveV, Int.reduceLE, Int.reduceLT, Int.reduceEq, Int.reduceBEq, Int.reduceGT, Int.reduceGE, Nat.reduceLT, Nat.reduceLeDiff, SQX, V.cells, hl.gr, hlp.gr]
  rintro en1 h1 ⟨e3, e4, e2, rfl⟩
  refine WpC_cut (fun en' h' => en' 3 = .eptr (ndC p lp) 0 ∧ en' 4 = .eptr (ndC x lv) 0 ∧ en' 2 = .sc (.string s) ∧ en' 7 = .sc (.int .i64 0) ∧ h' = h1) ?_ ?_
  · simp only [SQ, SQB, oneCell, AOp.opds, Nat.reduceAdd, step, Opd.get, reduceCtorEq, slcLen, bin, binInt, reduceIte, Nat.reduceEqDiff, IntKind.signed, indexV, asNat?, loadV, cutCells, unary, evRess, evRes1, oneOrTup, wrapV, target, getsO, boundO, sliceV, exTo, Cp.isFull, isNil, moveV, Int.reduceLE, Int.reduceLT, Int.reduceEq, Int.reduceBEq, Int.reduceGT, Int.reduceGE, Nat.reduceLT, Nat.reduceLeDiff, SQX, V.cells, e3, e4, e2]
  rintro en2 h2 ⟨f3, f4, f2, f7, rfl⟩
  generalize hz : (if x.kind = 3 ∧ (s.toList == (⟨#[114, 101, 115, 117, 108, 116]⟩ : ByteArray).toList) = true then (1 : Int) else 0) = z
  refine WpC_cut (fun en' h' => en' 3 = .eptr (ndC p lp) 0 ∧ en' 4 = .eptr (ndC x lv) 0 ∧ en' 2 = .sc (.string s) ∧ en' 7 = .sc (.int .i64 z) ∧ h' = h2) ?_ ?_
  · by_cases k3 : x.kind = 3
    · have d3 := decide_eq_true k3
      cases c0 : s.toList == (⟨#[114, 101, 115, 117, 108, 116]⟩ : ByteArray).toList
      · rw [if_neg (by rw [c0]; simp)] at hz
        subst hz
        simp only [SQ, SQB, oneCell, AOp.opds, Nat.reduceAdd, step, Opd.get, reduceCtorEq, slcLen, bin, binInt, reduceIte, Nat.reduceEqDiff, IntKind.signed, indexV, asNat?, loadV, cutCells, unary, evRess, evRes1, oneOrTup, wrapV, target, getsO, boundO, sliceV, exTo, Cp.isFull, isNil, moveV, Int.reduceLE, Int.reduceLT, Int.reduceEq, Int.reduceBEq, Int.reduceGT, Int.reduceGE, Nat.reduceLT, Nat.reduceLeDiff, SQX, V.cells, f3, f4, f2, f7, d3, c0, binStr]
      · rw [if_pos ⟨k3, c0⟩] at hz
        subst hz
        simp only [SQ, SQB, oneCell, AOp.opds, Nat.reduceAdd, step, Opd.get, reduceCtorEq, slcLen, bin, binInt, reduceIte, Nat.reduceEqDiff, IntKind.signed, indexV, asNat?, loadV, cutCells, unary, evRess, evRes1, oneOrTup, wrapV, target, getsO, boundO, sliceV, exTo, Cp.isFull, isNil, moveV, Int.reduceLE, Int.reduceLT, Int.reduceEq, Int.reduceBEq, Int.reduceGT, Int.reduceGE, Nat.reduceLT, Nat.reduceLeDiff, SQX, V.cells, f3, f4, f2, f7, d3, c0, binStr]
    · have d3 := decide_eq_false k3
      rw [if_neg (fun q => k3 q.1)] at hz
      subst hz
      simp only [SQ, SQB, oneCell, AOp.opds, Nat.reduceAdd, step, Opd.get, reduceCtorEq, slcLen, bin, binInt, reduceIte, Nat.reduceEqDiff, IntKind.signed, indexV, asNat?, loadV, cutCells, unary, evRess, evRes1, oneOrTup, wrapV, target, getsO, boundO, sliceV, exTo, Cp.isFull, isNil, moveV, Int.reduceLE, Int.reduceLT, Int.reduceEq, Int.reduceBEq, Int.reduceGT, Int.reduceGE, Nat.reduceLT, Nat.reduceLeDiff, SQX, V.cells, f3, f4, f2, f7, d3]
  rintro en3 h3 ⟨g3, g4, g2, g7, rfl⟩
  refine WpC_cut (fun en' h' => en' 3 = .eptr (ndC p lp) 0 ∧ en' 2 = .sc (.string s) ∧ en' 7 = .sc (.int .i64 (x.l.foldl (lStep s) z)) ∧ h' = h3) ?_ ?_
  · simp only [SQ, SQB, oneCell, AOp.opds, Nat.reduceAdd, step, Opd.get, reduceCtorEq, slcLen, bin, binInt, reduceIte, Nat.reduceEqDiff, IntKind.signed, indexV, asNat?, loadV, cutCells, unary, evRess, evRes1, oneOrTup, wrapV, target, getsO, boundO, sliceV, exTo, Cp.isFull, isNil, moveV, Int.reduceLE, Int.reduceLT, Int.reduceEq, Int.reduceBEq, Int.reduceGT, Int.reduceGE, Nat.reduceLT, Nat.reduceLeDiff, SQX, V.cells, g3, g4, g2, g7]
    refine WpC_loopI (fun k en h' => ∃ i : Nat, k = x.l.length - i ∧ i ≤ x.l.length ∧ en 8 = V.int i ∧ en 3 = .eptr (ndC p lp) 0 ∧ en 4 = .eptr (ndC x lv) 0 ∧ en 2 = .sc (.string s) ∧ en 7 = .sc (.int .i64 ((x.l.take i).foldl (lStep s) z)) ∧ h' = h3) x.l.length ⟨0, rfl, Nat.zero_le _, rfl, g3, g4, g2, g7, rfl⟩ ?_
    rintro k en h' ⟨i, rfl, hi, i8, i3, i4, i2, i7, rfl⟩
    by_cases hh : i < x.l.length
    · obtain ⟨r, hr1, hr2⟩ := hl.get hh
      obtain ⟨lv2, rfl, _⟩ := hr2.open
      have hf : (x.l.take (i + 1)).foldl (lStep s) z = if (x.l[i].s.toList == s.toList) = true then (if x.l[i].kind = 5 then 1 else if x.l[i].kind = 6 then 2 else (x.l.take i).foldl (lStep s) z) else (x.l.take i).foldl (lStep s) z := foldl_take hh
      generalize hA : (x.l.take i).foldl (lStep s) z = A at hf i7
      by_cases k2 : x.l[i].kind = 5
      · have d2 := decide_eq_true k2
        have d3 := decide_eq_false (show ¬ x.l[i].kind = 6 by omega)
        cases c0 : x.l[i].s.toList == s.toList
        · rw [c0, if_neg (by simp)] at hf
          simp only [SQ, SQB, oneCell, AOp.opds, Nat.reduceAdd, step, Opd.get, reduceCtorEq, bin, binInt, reduceIte, Nat.reduceEqDiff, IntKind.signed, asNat?, loadV, cutCells, unary, evRess, evRes1, oneOrTup, wrapV, target, getsO, boundO, sliceV, exTo, Cp.isFull, isNil, moveV, Int.reduceLE, Int.reduceLT, Int.reduceEq, Int.reduceBEq, Int.reduceGT, Int.reduceGE, Nat.reduceLT, Nat.reduceLeDiff, SQX, V.cells, i8, i3, i4, i2, i7, ll, hh, hr1, take7, binStr, c0, d2, d3]
          exact ⟨x.l.length - (i + 1), by omega, i + 1, rfl, by omega, by rw [wrap_i64 (by omega) (by omega)]; rfl, by rw [hf]⟩
        · rw [c0, if_pos rfl, if_pos k2] at hf
          simp only [SQ, SQB, oneCell, AOp.opds, Nat.reduceAdd, step, Opd.get, reduceCtorEq, bin, binInt, reduceIte, Nat.reduceEqDiff, IntKind.signed, asNat?, loadV, cutCells, unary, evRess, evRes1, oneOrTup, wrapV, target, getsO, boundO, sliceV, exTo, Cp.isFull, isNil, moveV, Int.reduceLE, Int.reduceLT, Int.reduceEq, Int.reduceBEq, Int.reduceGT, Int.reduceGE, Nat.reduceLT, Nat.reduceLeDiff, SQX, V.cells, i8, i3, i4, i2, i7, ll, hh, hr1, take7, binStr, c0, d2, d3]
          exact ⟨x.l.length - (i + 1), by omega, i + 1, rfl, by omega, by rw [wrap_i64 (by omega) (by omega)]; rfl, by rw [hf]⟩
      have d2 := decide_eq_false k2
      rw [if_neg k2] at hf
      by_cases k3 : x.l[i].kind = 6
      · have d3 := decide_eq_true k3
        cases c0 : x.l[i].s.toList == s.toList
        · rw [c0, if_neg (by simp)] at hf
          simp only [SQ, SQB, oneCell, AOp.opds, Nat.reduceAdd, step, Opd.get, reduceCtorEq, bin, binInt, reduceIte, Nat.reduceEqDiff, IntKind.signed, asNat?, loadV, cutCells, unary, evRess, evRes1, oneOrTup, wrapV, target, getsO, boundO, sliceV, exTo, Cp.isFull, isNil, moveV, Int.reduceLE, Int.reduceLT, Int.reduceEq, Int.reduceBEq, Int.reduceGT, Int.reduceGE, Nat.reduceLT, Nat.reduceLeDiff, SQX, V.cells, i8, i3, i4, i2, i7, ll, hh, hr1, take7, binStr, c0, d2, d3]
          exact ⟨x.l.length - (i + 1), by omega, i + 1, rfl, by omega, by rw [wrap_i64 (by omega) (by omega)]; rfl, by rw [hf]⟩
        · rw [c0, if_pos rfl, if_pos k3] at hf
          simp only [SQ, SQB, oneCell, AOp.opds, Nat.reduceAdd, step, Opd.get, reduceCtorEq, bin, binInt, reduceIte, Nat.reduceEqDiff, IntKind.signed, asNat?, loadV, cutCells, unary, evRess, evRes1, oneOrTup, wrapV, target, getsO, boundO, sliceV, exTo, Cp.isFull, isNil, moveV, Int.reduceLE, Int.reduceLT, Int.reduceEq, Int.reduceBEq, Int.reduceGT, Int.reduceGE, Nat.reduceLT, Nat.reduceLeDiff, SQX, V.cells, i8, i3, i4, i2, i7, ll, hh, hr1, take7, binStr, c0, d2, d3]
          exact ⟨x.l.length - (i + 1), by omega, i + 1, rfl, by omega, by rw [wrap_i64 (by omega) (by omega)]; rfl, by rw [hf]⟩
      · have d3 := decide_eq_false k3
        rw [if_neg k3, ite_self] at hf
        simp only [SQ, SQB, oneCell, AOp.opds, Nat.reduceAdd, step, Opd.get, reduceCtorEq, bin, binInt, reduceIte, Nat.reduceEqDiff, IntKind.signed, asNat?, loadV, cutCells, unary, evRess, evRes1, oneOrTup, wrapV, target, getsO, boundO, sliceV, exTo, Cp.isFull, isNil, moveV, Int.reduceLE, Int.reduceLT, Int.reduceEq, Int.reduceBEq, Int.reduceGT, Int.reduceGE, Nat.reduceLT, Nat.reduceLeDiff, SQX, V.cells, i8, i3, i4, i2, i7, ll, hh, hr1, take7, d2, d3]
        exact ⟨x.l.length - (i + 1), by omega, i + 1, rfl, by omega, by rw [wrap_i64 (by omega) (by omega)]; rfl, by rw [hf]⟩
    · have : x.l.take i = x.l := List.take_of_length_le (by omega)
      rw [this] at i7
      simp only [SQ, SQB, oneCell, AOp.opds, Nat.reduceAdd, step, Opd.get, reduceCtorEq, bin, binInt, reduceIte, Nat.reduceEqDiff, IntKind.signed, asNat?, loadV, cutCells, unary, evRess, evRes1, oneOrTup, wrapV, target, getsO, boundO, sliceV, exTo, Cp.isFull, isNil, moveV, Int.reduceLE, Int.reduceLT, Int.reduceEq, Int.reduceBEq, Int.reduceGT, Int.reduceGE, Nat.reduceLT, Nat.reduceLeDiff, SQX, V.cells, i8, i3, i4, i2, i7, ll, hh]
  rintro en4 h4 ⟨j3, j2, j7, rfl⟩
  have hL : locN s x = x.l.foldl (lStep s) z := by unfold locN; rw [hz]
  unfold kindN
  rw [← hL] at j7
  by_cases h0 : locN s x = 0
  · have d0 := decide_eq_true h0
    rw [if_pos h0]
    simp only [SQ, SQB, oneCell, AOp.opds, Nat.reduceAdd, step, Opd.get, reduceCtorEq, slcLen, bin, binInt, reduceIte, Nat.reduceEqDiff, IntKind.signed, indexV, asNat?, loadV, cutCells, unary, evRess, evRes1, oneOrTup, wrapV, target, getsO, boundO, sliceV, exTo, Cp.isFull, isNil, moveV, Int.reduceLE, Int.reduceLT, Int.reduceEq, Int.reduceBEq, Int.reduceGT, Int.reduceGE, Nat.reduceLT, Nat.reduceLeDiff, SQX, V.cells, j3, j2, j7, d0, take7, callD_ret (hglob _ _)]
  · have d0 := decide_eq_false h0
    rw [if_neg h0]
    simp only [SQ, SQB, oneCell, AOp.opds, Nat.reduceAdd, step, Opd.get, reduceCtorEq, slcLen, bin, binInt, reduceIte, Nat.reduceEqDiff, IntKind.signed, indexV, asNat?, loadV, cutCells, unary, evRess, evRes1, oneOrTup, wrapV, target, getsO, boundO, sliceV, exTo, Cp.isFull, isNil, moveV, Int.reduceLE, Int.reduceLT, Int.reduceEq, Int.reduceBEq, Int.reduceGT, Int.reduceGE, Nat.reduceLT, Nat.reduceLeDiff, SQX, V.cells, j3, j2, j7, d0]
end Go.Am
end
section
/- Am: maps from texts to numbers, as lists. -/
set_option linter.unusedSimpArgs false
namespace Go.Am
theorem ba_beq (a b : ByteArray) : (a == b) = true ↔ a = b := by
  cases a; cases b; constructor
  · intro h; congr; exact eq_of_beq h
  · intro h; cases h; exact beq_self_eq_true (α := Array UInt8) _
abbrev mEnt (p : ByteArray × Int) : Value × V := (.string p.1, .sc (.int .i64 p.2))
def getI : List (ByteArray × Int) → ByteArray → Int
  | [], _ => 0
  | p :: r, t => if (t == p.1) = true then p.2 else getI r t
def putI : List (ByteArray × Int) → ByteArray → Int → List (ByteArray × Int)
  | [], s, n => [(s, n)]
  | p :: r, s, n => if (s == p.1) = true then (s, n) :: r else p :: putI r s n
theorem get_put (s t : ByteArray) (n : Int) : ∀ ms : List (ByteArray × Int), getI (putI ms s n) t = if t = s then n else getI ms t
  | [] => by simp only [putI, getI, ba_beq]
  | p :: r => by
    have ih := get_put s t n r
    unfold putI
    by_cases h : s = p.1
    · rw [if_pos ((ba_beq _ _).2 h)]
      simp only [getI, ba_beq]
      by_cases h2 : t = s
      · rw [if_pos h2, if_pos h2]
      · rw [if_neg h2, if_neg h2, if_neg (fun q => h2 (q.trans h.symm))]
    · rw [if_neg (fun q => h ((ba_beq _ _).1 q))]
      simp only [getI, ba_beq, ih]
      by_cases h2 : t = p.1
      · rw [if_pos h2, if_neg (fun q => h (q.symm.trans h2)), if_pos h2]
      · rw [if_neg h2, if_neg h2]
theorem upd_map (s : ByteArray) (n : Int) : ∀ (ms : List (ByteArray × Int)) (pre : List (Value × V)), ((findM (.string s) (ms.map mEnt) pre.length).map fun r => match r with
      | some (i, _) => (pre ++ ms.map mEnt).set i (mEnt (s, n))
      | none => pre ++ ms.map mEnt ++ [mEnt (s, n)]) = some (pre ++ (putI ms s n).map mEnt)
  | [], pre => by simp [findM, putI]
  | p :: r, pre => by
    have ih := upd_map s n r (pre ++ [mEnt p])
    unfold putI
    simp only [List.map_cons, findM, keyEq]
    cases h : s == p.1
    · simp only [List.length_append, List.length_cons, List.length_nil, Nat.zero_add, List.append_assoc, List.cons_append, List.nil_append] at ih
      simpa using ih
    · simp [List.set_append_right]
theorem look_map (t : ByteArray) : ∀ (ms : List (ByteArray × Int)) (i : Nat), ∃ b, ((findM (.string t) (ms.map mEnt) i).map fun r => match r with
      | some (_, v) => (v, true)
      | none => (V.sc (.int .i64 0), false)) = some (V.sc (.int .i64 (getI ms t)), b)
  | [], i => ⟨false, by simp [findM, getI]⟩
  | p :: r, i => by
    unfold getI
    simp only [List.map_cons, findM, keyEq]
    cases h : t == p.1
    · exact look_map t r (i + 1)
    · exact ⟨true, rfl⟩
end Go.Am
end
section
/- Am: what a proc declares: a map of its own. -/
set_option linter.unusedSimpArgs false
namespace Go.Am
theorem list_eq (s t : ByteArray) : (s.toList == t.toList) = decide (s = t) := by
  have h := str_eq s t.data.toList
  rw [Array.toArray_toList] at h
  refine h.trans ?_
  rw [decide_eq_decide]
  cases s; cases t
  simp
section
variable {h : Heap} {ms : List (ByteArray × Int)}
theorem upd_h {base : Nat} (s : ByteArray) (n : Int) : updateV base (h ++ [.mmap (ms.map mEnt)]) .s (.mp h.length) (.sc (.string s)) (.sc (.int .i64 n)) = some (h ++ [.mmap ((putI ms s n).map mEnt)]) := by
  have hu := upd_map s n ms []
  have hg : (h ++ [Obj.mmap (ms.map mEnt)])[h.length]? = some (.mmap (ms.map mEnt)) := by simp
  have hc : ((V.sc (.int .i64 n)).cells.all oneCell = true ∧ mayStore base h.length [V.sc (.int .i64 n)] = true) := ⟨rfl, by unfold mayStore; rw [Bool.or_eq_true]; exact .inr rfl⟩
  simp only [List.nil_append, List.length_nil] at hu
  simp only [updateV, keyIs, Option.bind_some, hg]
  rw [if_pos hc]
  cases hf : findM (.string s) (ms.map mEnt) 0 with
  | none => rw [hf] at hu; simp at hu
  | some r =>
    rw [hf] at hu
    cases r with
    | none => simp only [Option.map_some, Option.some.injEq] at hu ⊢; rw [hu]; simp [List.set_append_right]
    | some p => obtain ⟨i, v⟩ := p; simp only [Option.map_some, Option.some.injEq] at hu ⊢; rw [hu]; simp [List.set_append_right]
theorem look_h (z : Bool) (t : ByteArray) : ∃ b, lookupV (h ++ [.mmap (ms.map mEnt)]) .s (.sc (.int .i64 0)) (.mp h.length) (.sc (.string t)) = some (.sc (.int .i64 (getI ms t)), b) := by
  have hg : (h ++ [Obj.mmap (ms.map mEnt)])[h.length]? = some (.mmap (ms.map mEnt)) := by simp
  simp only [lookupV, keyIs, Option.bind_some, hg]
  exact look_map t ms 0
end
end Go.Am
end
