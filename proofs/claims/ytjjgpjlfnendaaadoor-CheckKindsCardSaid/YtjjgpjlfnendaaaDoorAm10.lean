/- The abstract machine and what is proved in it, part 10. -/
import Derived.Test.YtjjgpjlfnendaaaDoorAm9
set_option linter.unusedVariables false
section
/- Am: names. -/
set_option linter.unusedSimpArgs false
namespace Go.Am
theorem byte_at (s : ByteArray) (k : Nat) : s[k]? = s.data.toList[k]? := by
  by_cases h : k < s.size
  · have h' : k < s.data.toList.length := by simpa using h
    rw [List.getElem?_eq_getElem h', getElem?_pos s k h]
    rfl
  · have h' : s.data.toList.length ≤ k := by
      have : s.data.toList.length = s.size := by simp
      omega
    rw [List.getElem?_eq_none h', getElem?_neg s k h]
theorem size_list (s : ByteArray) : s.data.toList.length = s.size := by simp
def eitherB (c : UInt8) : Bool := letterB c.toNat || digitB c.toNat
def nameB (s : ByteArray) : Bool := decide (1 ≤ s.size ∧ s.size ≤ 32) && (match s.data.toList with | c :: _ => letterB c.toNat | [] => false) && !inB wordsL s && s.data.toList.all eitherB
theorem empty_list (s : ByteArray) : (s.toList == (⟨#[]⟩ : ByteArray).toList) = decide (s.size = 0) := by
  rw [ByteArray.toList_eq, ByteArray.toList_eq]
  have e : (⟨#[]⟩ : ByteArray).data.toList = [] := rfl
  rw [e]
  have := size_list s
  cases hl : s.data.toList with
  | nil => rw [hl] at this; simp at this; simp [← this]
  | cons c r => rw [hl] at this; simp at this; simp [← this]
theorem refName_r {base : Nat} (s : ByteArray) (h : Heap) : WpF S0 base k_spinnakerref22_Name [.sc (.string s)] h fun v h' => v = .bool (nameB s) ∧ h' = h := by
  first | refine WpF_pure (A := f_spinnakerref22_Name) rfl rfl rfl rfl ?_ | refine WpF_imp (A := f_spinnakerref22_Name) rfl rfl rfl rfl ?_
  simp only [f_spinnakerref22_Name]
  by_cases h0 : s.size = 0
  · simp only [SQ, SQB, oneCell, AOp.opds, Nat.reduceAdd, step, Opd.get, reduceCtorEq, slcLen, bin, binInt, reduceIte, Nat.reduceEqDiff, IntKind.signed, indexV, asNat?, loadV, cutCells, unary, evRess, evRes1, oneOrTup, wrapV, target, getsO, boundO, sliceV, exTo, Cp.isFull, isNil, moveV, Int.reduceLE, Int.reduceLT, Int.reduceEq, Int.reduceBEq, Int.reduceGT, Int.reduceGE, Nat.reduceLT, Nat.reduceLeDiff, show (s.size : Int) < 1 by omega]
    simp [nameB, h0]
  · have h0' : ¬ (s.size : Int) < 1 := by omega
    by_cases h1 : 32 < s.size
    · have h1' : (32 : Int) < s.size := by omega
      simp only [SQ, SQB, oneCell, AOp.opds, Nat.reduceAdd, step, Opd.get, reduceCtorEq, slcLen, bin, binInt, reduceIte, Nat.reduceEqDiff, IntKind.signed, indexV, asNat?, loadV, cutCells, unary, evRess, evRes1, oneOrTup, wrapV, target, getsO, boundO, sliceV, exTo, Cp.isFull, isNil, moveV, Int.reduceLE, Int.reduceLT, Int.reduceEq, Int.reduceBEq, Int.reduceGT, Int.reduceGE, Nat.reduceLT, Nat.reduceLeDiff, h0', h1']
      simp [nameB, show ¬ s.size ≤ 32 by omega]
    · have h1' : ¬ (32 : Int) < s.size := by omega
      have hsz := size_list s
      obtain ⟨c, r, hcr⟩ : ∃ c r, s.data.toList = c :: r := by
        cases hl : s.data.toList with
        | nil => rw [hl] at hsz; simp at hsz; omega
        | cons c r => exact ⟨c, r, rfl⟩
      have hb : s[0]? = some c := by rw [byte_at, hcr]; rfl
      cases h2 : letterB c.toNat
      · simp only [SQ, SQB, oneCell, AOp.opds, Nat.reduceAdd, step, Opd.get, reduceCtorEq, slcLen, bin, binInt, reduceIte, Nat.reduceEqDiff, IntKind.signed, indexV, asNat?, loadV, cutCells, unary, evRess, evRes1, oneOrTup, wrapV, target, getsO, boundO, sliceV, exTo, Cp.isFull, isNil, moveV, Int.reduceLE, Int.reduceLT, Int.reduceEq, Int.reduceBEq, Int.reduceGT, Int.reduceGE, Nat.reduceLT, Nat.reduceLeDiff, h0', h1', hb, callD_ret (alpha_r _ _), h2, Int.toNat_zero]
        simp [nameB, hcr, h2]
      · cases h3 : inB wordsL s
        · simp only [SQ, SQB, oneCell, AOp.opds, Nat.reduceAdd, step, Opd.get, reduceCtorEq, slcLen, bin, binInt, reduceIte, Nat.reduceEqDiff, IntKind.signed, indexV, asNat?, loadV, cutCells, unary, evRess, evRes1, oneOrTup, wrapV, target, getsO, boundO, sliceV, exTo, Cp.isFull, isNil, moveV, Int.reduceLE, Int.reduceLT, Int.reduceEq, Int.reduceBEq, Int.reduceGT, Int.reduceGE, Nat.reduceLT, Nat.reduceLeDiff, h0', h1', hb, callD_ret (alpha_r _ _), h2, Int.toNat_zero, callD_ret (words_r _), callD_ret (in_r wordsL s _ _ (by decide)), h3]
          refine WpC_loopI (fun k en h' => ∃ i : Nat, k = s.size - i ∧ i ≤ s.size ∧ en 3 = V.int i ∧ en 0 = .sc (.string s) ∧ (s.data.toList.take i).all eitherB = true ∧ h' = h) s.size ⟨0, rfl, Nat.zero_le _, rfl, rfl, rfl, rfl⟩ ?_
          rintro k en h' ⟨i, rfl, hi, e3, e0, hall, rfl⟩
          by_cases h4 : i < s.size
          · have h4' : i < s.data.toList.length := by omega
            have hbi : s[i]? = some s.data.toList[i] := by rw [byte_at, List.getElem?_eq_getElem h4']
            have htk : s.data.toList.take (i + 1) = s.data.toList.take i ++ [s.data.toList[i]] := by rw [List.take_add_one, List.getElem?_eq_getElem h4']; rfl
            have go : ∀ (hh : eitherB s.data.toList[i] = true), ∃ j, j < s.size - i ∧ ∃ i_1, j = s.size - i_1 ∧ i_1 ≤ s.size ∧ V.sc (.int .i64 (IntKind.i64.wrap ((i : Int) + 1))) = V.int i_1 ∧ (s.data.toList.take i_1).all eitherB = true := fun hh =>
              ⟨s.size - (i + 1), by omega, i + 1, rfl, by omega, by rw [wrap_i64 (by omega) (by omega)]; rfl, by rw [htk, List.all_append, hall, List.all_cons, hh]; rfl⟩
            cases h5 : letterB (s.data.toList[i]).toNat
            · cases h6 : digitB (s.data.toList[i]).toNat
              · simp only [SQ, SQB, oneCell, AOp.opds, Nat.reduceAdd, step, Opd.get, reduceCtorEq, slcLen, bin, binInt, reduceIte, Nat.reduceEqDiff, IntKind.signed, indexV, asNat?, loadV, cutCells, unary, evRess, evRes1, oneOrTup, wrapV, target, getsO, boundO, sliceV, exTo, Cp.isFull, isNil, moveV, Int.reduceLE, Int.reduceLT, Int.reduceEq, Int.reduceBEq, Int.reduceGT, Int.reduceGE, Nat.reduceLT, Nat.reduceLeDiff, e3, e0, h4, hbi, callD_ret (alpha_r _ _), callD_ret (num_r _ _), h5, h6]
                have : s.data.toList.all eitherB = false := by
                  rw [← Bool.not_eq_true, List.all_eq_true]
                  intro q
                  have := q _ (List.getElem_mem h4')
                  unfold eitherB at this
                  rw [h5, h6] at this
                  exact absurd this (by simp)
                simp [nameB, this]
              · simp only [SQ, SQB, oneCell, AOp.opds, Nat.reduceAdd, step, Opd.get, reduceCtorEq, slcLen, bin, binInt, reduceIte, Nat.reduceEqDiff, IntKind.signed, indexV, asNat?, loadV, cutCells, unary, evRess, evRes1, oneOrTup, wrapV, target, getsO, boundO, sliceV, exTo, Cp.isFull, isNil, moveV, Int.reduceLE, Int.reduceLT, Int.reduceEq, Int.reduceBEq, Int.reduceGT, Int.reduceGE, Nat.reduceLT, Nat.reduceLeDiff, e3, e0, h4, hbi, callD_ret (alpha_r _ _), callD_ret (num_r _ _), h5, h6]
                exact go (by unfold eitherB; rw [h6, Bool.or_true])
            · simp only [SQ, SQB, oneCell, AOp.opds, Nat.reduceAdd, step, Opd.get, reduceCtorEq, slcLen, bin, binInt, reduceIte, Nat.reduceEqDiff, IntKind.signed, indexV, asNat?, loadV, cutCells, unary, evRess, evRes1, oneOrTup, wrapV, target, getsO, boundO, sliceV, exTo, Cp.isFull, isNil, moveV, Int.reduceLE, Int.reduceLT, Int.reduceEq, Int.reduceBEq, Int.reduceGT, Int.reduceGE, Nat.reduceLT, Nat.reduceLeDiff, e3, e0, h4, hbi, callD_ret (alpha_r _ _), h5]
              exact go (by unfold eitherB; rw [h5]; rfl)
          · simp only [SQ, SQB, oneCell, AOp.opds, Nat.reduceAdd, step, Opd.get, reduceCtorEq, slcLen, bin, binInt, reduceIte, Nat.reduceEqDiff, IntKind.signed, indexV, asNat?, loadV, cutCells, unary, evRess, evRes1, oneOrTup, wrapV, target, getsO, boundO, sliceV, exTo, Cp.isFull, isNil, moveV, Int.reduceLE, Int.reduceLT, Int.reduceEq, Int.reduceBEq, Int.reduceGT, Int.reduceGE, Nat.reduceLT, Nat.reduceLeDiff, e3, e0, h4]
            have : s.data.toList.take i = s.data.toList := List.take_of_length_le (by omega)
            rw [this] at hall
            simp [nameB, hcr, h2, h3, show 1 ≤ s.size ∧ s.size ≤ 32 by omega]
            rw [hcr] at hall
            simpa using hall
        · simp only [SQ, SQB, oneCell, AOp.opds, Nat.reduceAdd, step, Opd.get, reduceCtorEq, slcLen, bin, binInt, reduceIte, Nat.reduceEqDiff, IntKind.signed, indexV, asNat?, loadV, cutCells, unary, evRess, evRes1, oneOrTup, wrapV, target, getsO, boundO, sliceV, exTo, Cp.isFull, isNil, moveV, Int.reduceLE, Int.reduceLT, Int.reduceEq, Int.reduceBEq, Int.reduceGT, Int.reduceGE, Nat.reduceLT, Nat.reduceLeDiff, h0', h1', hb, callD_ret (alpha_r _ _), h2, Int.toNat_zero, callD_ret (words_r _), callD_ret (in_r wordsL s _ _ (by decide)), h3]
          simp [nameB, h3]
theorem name1_r {base : Nat} (n : Int) (h : Heap) : WpF S0 base k_lex_Name_1 [.sc (.int .u8 n)] h fun v h' => v = .bool (!(letterB n || digitB n)) ∧ h' = h := by
  first | refine WpF_pure (A := f_lex_Name_1) rfl rfl rfl rfl ?_ | refine WpF_imp (A := f_lex_Name_1) rfl rfl rfl rfl ?_
  simp only [f_lex_Name_1]
  simp only [SQ, SQB, oneCell, AOp.opds, Nat.reduceAdd, step, Opd.get, reduceCtorEq, slcLen, bin, binInt, reduceIte, Nat.reduceEqDiff, IntKind.signed, indexV, asNat?, loadV, cutCells, unary, evRess, evRes1, oneOrTup, wrapV, target, getsO, boundO, sliceV, exTo, Cp.isFull, isNil, moveV, Int.reduceLE, Int.reduceLT, Int.reduceEq, Int.reduceBEq, Int.reduceGT, Int.reduceGE, Nat.reduceLT, Nat.reduceLeDiff, callD_ret (either_r _ _)]
theorem words_g : ((List.range 26).map fun i => (g0.drop (i * 1)).take 1) = wordsL.map sv := rfl
theorem g0_len : g0.length = 26 := rfl
theorem index_r {base : Nat} (l : List ByteArray) (s : ByteArray) (ex : Cp) (h : Heap) (hl : l.length < 2 ^ 63) : WpF S0 base k_slices_Indexstringstring [.slc ex 1 (l.map sv), .sc (.string s)] h fun v h' => (∃ n : Int, v = .sc (.int .i64 n) ∧ (decide (0 ≤ n)) = inB l s) ∧ h' = h := by
  first | refine WpF_pure (A := f_slices_Indexstringstring) rfl rfl rfl rfl ?_ | refine WpF_imp (A := f_slices_Indexstringstring) rfl rfl rfl rfl ?_
  simp only [f_slices_Indexstringstring]
  simp only [SQ, SQB, oneCell, AOp.opds, Nat.reduceAdd, step, Opd.get, reduceCtorEq, slcLen, bin, binInt, reduceIte, Nat.reduceEqDiff, IntKind.signed, indexV, asNat?, loadV, cutCells, unary, evRess, evRes1, oneOrTup, wrapV, target, getsO, boundO, sliceV, exTo, Cp.isFull, isNil, moveV, Int.reduceLE, Int.reduceLT, Int.reduceEq, Int.reduceBEq, Int.reduceGT, Int.reduceGE, Nat.reduceLT, Nat.reduceLeDiff]
  refine WpC_loopI (fun k en h' => ∃ i : Nat, k = l.length - i ∧ i ≤ l.length ∧ en 8 = V.int i ∧ en 7 = V.int l.length ∧ en 0 = .slc ex 1 (l.map sv) ∧ en 1 = .sc (.string s) ∧ inB (l.take i) s = false ∧ h' = h) l.length ⟨0, rfl, Nat.zero_le _, rfl, rfl, rfl, rfl, rfl, rfl⟩ ?_
  rintro k en h' ⟨i, rfl, hi, e8, e7, e0, e1, hno, rfl⟩
  by_cases h1 : i < l.length
  · have hg : (l.map sv)[i]? = some (sv l[i]) := by simp [List.getElem?_map, h1]
    have htk : l.take (i + 1) = l.take i ++ [l[i]] := by rw [List.take_add_one, List.getElem?_eq_getElem h1]; rfl
    cases h2 : (s.toList == l[i].toList)
    · simp only [SQ, SQB, oneCell, AOp.opds, Nat.reduceAdd, step, Opd.get, reduceCtorEq, slcLen, bin, binInt, reduceIte, Nat.reduceEqDiff, IntKind.signed, indexV, asNat?, loadV, cutCells, unary, evRess, evRes1, oneOrTup, wrapV, target, getsO, boundO, sliceV, exTo, Cp.isFull, isNil, moveV, Int.reduceLE, Int.reduceLT, Int.reduceEq, Int.reduceBEq, Int.reduceGT, Int.reduceGE, Nat.reduceLT, Nat.reduceLeDiff, e8, e7, e0, e1, h1, hg, List.getElem?_cons_zero, binStr, h2]
      refine ⟨l.length - (i + 1), by omega, i + 1, rfl, by omega, by rw [wrap_i64 (by omega) (by omega)]; rfl, ?_⟩
      rw [htk]
      unfold inB at hno ⊢
      rw [List.any_append, hno]
      rw [beq_symm_list] at h2
      simp [h2]
    · simp only [SQ, SQB, oneCell, AOp.opds, Nat.reduceAdd, step, Opd.get, reduceCtorEq, slcLen, bin, binInt, reduceIte, Nat.reduceEqDiff, IntKind.signed, indexV, asNat?, loadV, cutCells, unary, evRess, evRes1, oneOrTup, wrapV, target, getsO, boundO, sliceV, exTo, Cp.isFull, isNil, moveV, Int.reduceLE, Int.reduceLT, Int.reduceEq, Int.reduceBEq, Int.reduceGT, Int.reduceGE, Nat.reduceLT, Nat.reduceLeDiff, e8, e7, e0, e1, h1, hg, List.getElem?_cons_zero, binStr, h2]
      have : inB l s = true := by
        unfold inB
        rw [List.any_eq_true]
        exact ⟨l[i], List.getElem_mem h1, by rw [beq_symm_list]; exact h2⟩
      rw [this]
      exact ⟨i, rfl, by simp⟩
  · simp only [SQ, SQB, oneCell, AOp.opds, Nat.reduceAdd, step, Opd.get, reduceCtorEq, slcLen, bin, binInt, reduceIte, Nat.reduceEqDiff, IntKind.signed, indexV, asNat?, loadV, cutCells, unary, evRess, evRes1, oneOrTup, wrapV, target, getsO, boundO, sliceV, exTo, Cp.isFull, isNil, moveV, Int.reduceLE, Int.reduceLT, Int.reduceEq, Int.reduceBEq, Int.reduceGT, Int.reduceGE, Nat.reduceLT, Nat.reduceLeDiff, e8, e7, e0, h1]
    have : l.take i = l := List.take_of_length_le (by omega)
    rw [this] at hno
    rw [hno]
    exact ⟨-1, rfl, by decide⟩
theorem contains_r {base : Nat} (l : List ByteArray) (s : ByteArray) (ex : Cp) (h : Heap) (hl : l.length < 2 ^ 63) : WpF S0 base k_slices_Containsstringstring [.slc ex 1 (l.map sv), .sc (.string s)] h fun v h' => v = .bool (inB l s) ∧ h' = h := by
  first | refine WpF_pure (A := f_slices_Containsstringstring) rfl rfl rfl rfl ?_ | refine WpF_imp (A := f_slices_Containsstringstring) rfl rfl rfl rfl ?_
  obtain ⟨n, hn, hw⟩ := callD_ex (index_r (base := h.length) l s ex h hl)
  simp only [f_slices_Containsstringstring]
  simp only [SQ, SQB, oneCell, AOp.opds, Nat.reduceAdd, step, Opd.get, reduceCtorEq, slcLen, bin, binInt, reduceIte, Nat.reduceEqDiff, IntKind.signed, indexV, asNat?, loadV, cutCells, unary, evRess, evRes1, oneOrTup, wrapV, target, getsO, boundO, sliceV, exTo, Cp.isFull, isNil, moveV, Int.reduceLE, Int.reduceLT, Int.reduceEq, Int.reduceBEq, Int.reduceGT, Int.reduceGE, Nat.reduceLT, Nat.reduceLeDiff, callD_ret hw, hn]
theorem word_r {base : Nat} (s : ByteArray) (h : Heap) : WpF S0 base k_lex_Word [.sc (.string s)] h fun v h' => v = .bool (inB wordsL s) ∧ h' = h := by
  first | refine WpF_pure (A := f_lex_Word) rfl rfl rfl rfl ?_ | refine WpF_imp (A := f_lex_Word) rfl rfl rfl rfl ?_
  simp only [f_lex_Word]
  simp only [SQ, SQB, oneCell, AOp.opds, Nat.reduceAdd, step, Opd.get, reduceCtorEq, slcLen, bin, binInt, reduceIte, Nat.reduceEqDiff, IntKind.signed, indexV, asNat?, loadV, cutCells, unary, evRess, evRes1, oneOrTup, wrapV, target, getsO, boundO, sliceV, exTo, Cp.isFull, isNil, moveV, Int.reduceLE, Int.reduceLT, Int.reduceEq, Int.reduceBEq, Int.reduceGT, Int.reduceGE, Nat.reduceLT, Nat.reduceLeDiff, g0_len, words_g, callD_ret (contains_r wordsL s _ _ (by decide)), Nat.reduceMul]
theorem containsFunc_r {base : Nat} {g : FuncId} (p : UInt8 → Bool) (l : List UInt8) (ex : Cp) (h : Heap) (hl : l.length < 2 ^ 63) (hgq : [58, 63, 64, 73, 80, 90].contains g = true) (hg : ∀ (base : Nat) c, WpF S0 base g [.sc (.int .u8 c.toNat)] h fun v h' => v = .bool (p c) ∧ h' = h) :
    WpF S0 base k_slices_ContainsFuncbytebyte [.slc ex 1 (l.map bv), .fn (.func g) [] []] h fun v h' => v = .bool (l.any p) ∧ h' = h := by
  first | refine WpF_pure (A := f_slices_ContainsFuncbytebyte) rfl rfl rfl rfl ?_ | refine WpF_imp (A := f_slices_ContainsFuncbytebyte) rfl rfl rfl rfl ?_
  obtain ⟨n, hn, hw⟩ := callD_ex (indexFunc_r (base := h.length) [] p l ex h hl hgq hg)
  have : decide (0 ≤ n) = l.any p := by
    rcases hn with ⟨i, rfl, hi, hp, _⟩ | ⟨rfl, hp⟩
    · have : l.any p = true := List.any_eq_true.2 ⟨l[i], List.getElem_mem hi, hp⟩
      rw [this]; simp
    · rw [hp]; rfl
  simp only [f_slices_ContainsFuncbytebyte]
  simp only [SQ, SQB, oneCell, AOp.opds, Nat.reduceAdd, step, Opd.get, reduceCtorEq, slcLen, bin, binInt, reduceIte, Nat.reduceEqDiff, IntKind.signed, indexV, asNat?, loadV, cutCells, unary, evRess, evRes1, oneOrTup, wrapV, target, getsO, boundO, sliceV, exTo, Cp.isFull, isNil, moveV, Int.reduceLE, Int.reduceLT, Int.reduceEq, Int.reduceBEq, Int.reduceGT, Int.reduceGE, Nat.reduceLT, Nat.reduceLeDiff, callD_ret hw, this]
theorem name_r {base : Nat} (s : ByteArray) (h : Heap) : WpF S0 base k_lex_Name [.sc (.string s)] h fun v h' => v = .bool (nameB s) ∧ h' = h := by
  first | refine WpF_pure (A := f_lex_Name) rfl rfl rfl rfl ?_ | refine WpF_imp (A := f_lex_Name) rfl rfl rfl rfl ?_
  simp only [f_lex_Name]
  by_cases h0 : s.size = 0
  · simp only [SQ, SQB, oneCell, AOp.opds, Nat.reduceAdd, step, Opd.get, reduceCtorEq, slcLen, bin, binInt, reduceIte, Nat.reduceEqDiff, IntKind.signed, indexV, asNat?, loadV, cutCells, unary, evRess, evRes1, oneOrTup, wrapV, target, getsO, boundO, sliceV, exTo, Cp.isFull, isNil, moveV, Int.reduceLE, Int.reduceLT, Int.reduceEq, Int.reduceBEq, Int.reduceGT, Int.reduceGE, Nat.reduceLT, Nat.reduceLeDiff, binStr, empty_list, h0]
    simp [nameB, h0]
  · by_cases h1 : 32 < s.size
    · have h1' : (32 : Int) < s.size := by omega
      simp only [SQ, SQB, oneCell, AOp.opds, Nat.reduceAdd, step, Opd.get, reduceCtorEq, slcLen, bin, binInt, reduceIte, Nat.reduceEqDiff, IntKind.signed, indexV, asNat?, loadV, cutCells, unary, evRess, evRes1, oneOrTup, wrapV, target, getsO, boundO, sliceV, exTo, Cp.isFull, isNil, moveV, Int.reduceLE, Int.reduceLT, Int.reduceEq, Int.reduceBEq, Int.reduceGT, Int.reduceGE, Nat.reduceLT, Nat.reduceLeDiff, binStr, empty_list, h0, h1']
      simp [nameB, show ¬ s.size ≤ 32 by omega]
    · have h1' : ¬ (32 : Int) < s.size := by omega
      have hsz := size_list s
      obtain ⟨c, r, hcr⟩ : ∃ c r, s.data.toList = c :: r := by
        cases hl : s.data.toList with
        | nil => rw [hl] at hsz; simp at hsz; omega
        | cons c r => exact ⟨c, r, rfl⟩
      have hb : s[0]? = some c := by rw [byte_at, hcr]; rfl
      cases h2 : letterB c.toNat
      · simp only [SQ, SQB, oneCell, AOp.opds, Nat.reduceAdd, step, Opd.get, reduceCtorEq, slcLen, bin, binInt, reduceIte, Nat.reduceEqDiff, IntKind.signed, indexV, asNat?, loadV, cutCells, unary, evRess, evRes1, oneOrTup, wrapV, target, getsO, boundO, sliceV, exTo, Cp.isFull, isNil, moveV, Int.reduceLE, Int.reduceLT, Int.reduceEq, Int.reduceBEq, Int.reduceGT, Int.reduceGE, Nat.reduceLT, Nat.reduceLeDiff, binStr, empty_list, h0, h1', hb, callD_ret (letter_r _ _), h2, Int.toNat_zero]
        simp [nameB, hcr, h2]
      · cases h3 : inB wordsL s
        · have hl : s.size ≤ lim := by unfold lim; omega
          have hc := fun base => containsFunc_r (base := base) (g := k_lex_Name_1) (fun c => !(letterB c.toNat || digitB c.toNat)) s.data.toList .any h (by omega) rfl (fun base c => name1_r c.toNat h)
          simp only [SQ, SQB, oneCell, AOp.opds, Nat.reduceAdd, step, Opd.get, reduceCtorEq, slcLen, bin, binInt, reduceIte, Nat.reduceEqDiff, IntKind.signed, indexV, asNat?, loadV, cutCells, unary, evRess, evRes1, oneOrTup, wrapV, target, getsO, boundO, sliceV, exTo, Cp.isFull, isNil, moveV, Int.reduceLE, Int.reduceLT, Int.reduceEq, Int.reduceBEq, Int.reduceGT, Int.reduceGE, Nat.reduceLT, Nat.reduceLeDiff, binStr, empty_list, h0, h1', hb, callD_ret (letter_r _ _), h2, Int.toNat_zero, callD_ret (word_r _ _), h3, hl, bytesOut_map, callD_ret (hc _)]
          simp only [nameB, hcr, h2, h3, show 1 ≤ s.size ∧ s.size ≤ 32 by omega, Bool.not_false, Bool.true_and, decide_true, and_self]
          have he : (fun c : UInt8 => !(!(letterB c.toNat || digitB c.toNat))) = eitherB := by funext c; simp [eitherB]
          rw [List.not_any_eq_all_not, he]
        · simp only [SQ, SQB, oneCell, AOp.opds, Nat.reduceAdd, step, Opd.get, reduceCtorEq, slcLen, bin, binInt, reduceIte, Nat.reduceEqDiff, IntKind.signed, indexV, asNat?, loadV, cutCells, unary, evRess, evRes1, oneOrTup, wrapV, target, getsO, boundO, sliceV, exTo, Cp.isFull, isNil, moveV, Int.reduceLE, Int.reduceLT, Int.reduceEq, Int.reduceBEq, Int.reduceGT, Int.reduceGE, Nat.reduceLT, Nat.reduceLeDiff, binStr, empty_list, h0, h1', hb, callD_ret (letter_r _ _), h2, Int.toNat_zero, callD_ret (word_r _ _), h3]
          simp [nameB, h3]
end Go.Am
end
section
/- Am: nodes of programs' trees, as plain data and as they lie in frozen memory. -/
namespace Go.Am
inductive Nd where
  | mk (kind : Int) (s t : ByteArray) (n ord line : Int) (l : List Nd)
namespace Nd
abbrev kind : Nd → Int | .mk k _ _ _ _ _ _ => k
abbrev s : Nd → ByteArray | .mk _ s _ _ _ _ _ => s
abbrev t : Nd → ByteArray | .mk _ _ t _ _ _ _ => t
abbrev n : Nd → Int | .mk _ _ _ n _ _ _ => n
abbrev ord : Nd → Int | .mk _ _ _ _ o _ _ => o
abbrev line : Nd → Int | .mk _ _ _ _ _ ln _ => ln
abbrev l : Nd → List Nd | .mk _ _ _ _ _ _ l => l
end Nd
mutual
def NdV : Nd → List V → Prop
  | .mk k s t n o ln l, cs => ∃ lv, cs = [.sc (.int .i64 k), .sc (.string s), .sc (.string t), .sc (.int .i64 n), .sc (.int .i64 o), .sc (.int .i64 ln), lv] ∧ ((lv = V.nilS ∧ NdR l []) ∨ ∃ ex rows, lv = .slc ex 7 rows ∧ NdR l rows ∧ l.length < 2 ^ 63)
def NdR : List Nd → List (List V) → Prop
  | [], rows => rows = []
  | x :: l, rows => ∃ r rest, rows = r :: rest ∧ NdV x r ∧ NdR l rest
end
def LV (lv : V) (l : List Nd) : Prop := (lv = V.nilS ∧ l = []) ∨ ∃ ex rows, lv = .slc ex 7 rows ∧ NdR l rows ∧ l.length < 2 ^ 63
theorem NdR.len : ∀ {l : List Nd} {rows : List (List V)}, NdR l rows → rows.length = l.length
  | [], rows, h => by simp only [NdR] at h; subst h; rfl
  | x :: l, rows, h => by
    simp only [NdR] at h
    obtain ⟨r, rest, rfl, _, h2⟩ := h
    simp [NdR.len h2]
theorem NdR.get : ∀ {l : List Nd} {rows : List (List V)}, NdR l rows → ∀ (i : Nat) (x : Nd), l[i]? = some x → ∃ r, rows[i]? = some r ∧ NdV x r
  | [], rows, h, i, x, hx => by simp at hx
  | y :: l, rows, h, i, x, hx => by
    simp only [NdR] at h
    obtain ⟨r, rest, rfl, h1, h2⟩ := h
    cases i with
    | zero => simp only [List.getElem?_cons_zero, Option.some.injEq] at hx; subst hx; exact ⟨r, rfl, h1⟩
    | succ i => simpa using NdR.get h2 i x (by simpa using hx)
theorem NdR.drop : ∀ {l : List Nd} {rows : List (List V)} (n : Nat), NdR l rows → NdR (l.drop n) (rows.drop n)
  | l, rows, 0, h => h
  | [], rows, n + 1, h => by simp only [NdR] at h; subst h; simp [NdR]
  | x :: l, rows, n + 1, h => by
    simp only [NdR] at h
    obtain ⟨r, rest, rfl, _, h2⟩ := h
    simpa using NdR.drop n h2
theorem NdR.take : ∀ {l : List Nd} {rows : List (List V)} (n : Nat), NdR l rows → NdR (l.take n) (rows.take n)
  | l, rows, 0, h => by simp [NdR]
  | [], rows, n + 1, h => by simp only [NdR] at h; subst h; simp [NdR]
  | x :: l, rows, n + 1, h => by
    simp only [NdR] at h
    obtain ⟨r, rest, rfl, h1, h2⟩ := h
    simp only [List.take_succ_cons, NdR]
    exact ⟨r, rest.take n, rfl, h1, NdR.take n h2⟩
theorem NdV.open {x : Nd} {cs : List V} (h : NdV x cs) : ∃ lv, cs = [.sc (.int .i64 x.kind), .sc (.string x.s), .sc (.string x.t), .sc (.int .i64 x.n), .sc (.int .i64 x.ord), .sc (.int .i64 x.line), lv] ∧ LV lv x.l := by
  cases x with
  | mk k s t n o ln l =>
    simp only [NdV] at h
    obtain ⟨lv, rfl, h⟩ := h
    refine ⟨lv, rfl, ?_⟩
    rcases h with ⟨h1, h2⟩ | h
    · exact .inl ⟨h1, List.eq_nil_of_length_eq_zero h2.len.symm⟩
    · exact .inr h
theorem LV.len {lv : V} {l : List Nd} (h : LV lv l) : slcLen lv = some l.length := by
  rcases h with ⟨rfl, rfl⟩ | ⟨ex, rows, rfl, h, _⟩
  · rfl
  · simp only [slcLen, h.len]
theorem LV.gr {lv : V} {l : List Nd} (h : LV lv l) : ground lv = true := by
  rcases h with ⟨rfl, rfl⟩ | ⟨ex, rows, rfl, h, _⟩ <;> rfl
theorem LV.get {lv : V} {l : List Nd} (h : LV lv l) {i : Nat} (hi : i < l.length) : ∃ r, (∀ hp, indexV hp 7 i lv = some (.eptr r 0)) ∧ NdV l[i] r := by
  rcases h with ⟨rfl, rfl⟩ | ⟨ex, rows, rfl, h, _⟩
  · simp at hi
  · obtain ⟨r, h1, h2⟩ := h.get i l[i] (List.getElem?_eq_getElem hi)
    exact ⟨r, fun hp => by simp [indexV, h1], h2⟩
theorem LV.lt {lv : V} {l : List Nd} (h : LV lv l) : l.length < 2 ^ 63 := by
  rcases h with ⟨rfl, rfl⟩ | ⟨ex, rows, rfl, h, h2⟩
  · simp
  · exact h2
mutual
def szN : Nd → Nat
  | .mk _ _ _ _ _ _ l => 1 + szL l
def szL : List Nd → Nat
  | [] => 0
  | x :: r => szN x + szL r
end
theorem szL_mem : ∀ {l : List Nd} {x : Nd}, x ∈ l → szN x ≤ szL l
  | [], x, h => by simp at h
  | y :: r, x, h => by
    simp only [szL]
    rcases List.mem_cons.1 h with rfl | h
    · omega
    · have := szL_mem h; omega
theorem sz_child {x y : Nd} (h : y ∈ x.l) : szN y < szN x := by
  cases x with
  | mk k s t n o ln l =>
    have := szL_mem h
    simp only [szN]
    simp only [Nd.l] at this
    omega
abbrev tx (l : List UInt8) : ByteArray := ⟨l.toArray⟩
def strengthN (s : List UInt8) : Nat :=
  if s = [61, 61] ∨ s = [33, 61] ∨ s = [60] ∨ s = [60, 61] ∨ s = [62] ∨ s = [62, 61] then 1
  else if s = [124] then 2 else if s = [94] then 3 else if s = [38] then 4
  else if s = [60, 60] ∨ s = [62, 62] then 5 else if s = [43] ∨ s = [45] then 6
  else if s = [42] ∨ s = [47] ∨ s = [37] then 7 else 0
def blankB (nm : ByteArray → Bool) (S T N O L : Bool) (x : Nd) : Bool :=
  (if S then nm x.s else decide (x.s.size = 0)) && (T || decide (x.t.size = 0)) && (N || decide (x.n = 0)) && (O || decide (x.ord = 0)) && (L || decide (x.l.length = 0)) && decide (0 ≤ x.line)
def ordOk (k o : Int) : Bool :=
  if k = 10 then decide (o = 0 ∨ o = 1) else if k = 11 then decide (o = 0 ∨ o = 2) else if k = 12 ∨ k = 13 then decide (0 ≤ o ∧ o ≤ 3) else if k = 14 then decide (1 ≤ o ∧ o ≤ 3) else decide (o = 0)
def fieldsB (nm : ByteArray → Bool) (x : Nd) : Bool :=
  decide (0 ≤ x.line) && (if x.kind ∈ [2, 3, 5, 6, 8, 9, 10, 11, 12, 13, 18, 21, 22] then nm x.s else decide (x.s.size = 0)) &&
  (if x.kind ∈ [10, 12, 13, 18] then nm x.t else if x.kind = 23 then decide (0 < strengthN x.t.data.toList) else if x.kind = 24 then decide (x.t.data.toList = [45] ∨ x.t.data.toList = [33] ∨ x.t.data.toList = [126]) else decide (x.t.size = 0)) &&
  (if x.kind = 2 then true else if x.kind = 3 ∨ x.kind = 6 ∨ x.kind = 20 then decide (0 ≤ x.n) else if x.kind = 12 then decide (1 ≤ x.n ∧ x.n ≤ 7) else decide (x.n = 0)) && ordOk x.kind x.ord
mutual
def mayN (nm : ByteArray → Bool) : Nd → Bool
  | .mk k s t n o ln l => fieldsB nm (.mk k s t n o ln []) &&
    (if k = 1 then allN nm 2 4 l
     else if k = 3 then lastN nm 5 5 l && decide (n < l.length)
     else if k = 4 then lastN nm 5 6 l
     else if k = 7 then allN nm 8 19 l
     else if k = 8 ∨ k = 11 ∨ k = 12 ∨ k = 17 ∨ k = 22 ∨ k = 24 then decide (l.length = 1) && allN nm 20 24 l
     else if k = 9 ∨ k = 13 ∨ k = 23 then decide (l.length = 2) && allN nm 20 24 l
     else if k = 15 then decide (l.length = 2 ∨ l.length = 3) && headN nm l
     else if k = 16 then decide (l.length = 2) && headN nm l
     else if k = 18 then allN nm 20 24 l
     else decide (l.length = 0) && decide (k = 2 ∨ k = 5 ∨ k = 6 ∨ k = 10 ∨ k = 14 ∨ k = 19 ∨ k = 20 ∨ k = 21))
def allN (nm : ByteArray → Bool) (lo hi : Int) : List Nd → Bool
  | [] => true
  | x :: r => (decide (lo ≤ x.kind ∧ x.kind ≤ hi) && mayN nm x) && allN nm lo hi r
def lastN (nm : ByteArray → Bool) (lo hi : Int) : List Nd → Bool
  | [] => false
  | x :: r => match r with
    | [] => decide (x.kind = 7) && mayN nm x
    | _ :: _ => (decide (lo ≤ x.kind ∧ x.kind ≤ hi) && mayN nm x) && lastN nm lo hi r
def headN (nm : ByteArray → Bool) : List Nd → Bool
  | [] => false
  | x :: r => (decide (20 ≤ x.kind ∧ x.kind ≤ 24) && mayN nm x) && allN nm 7 7 r
end
def okK (nm : ByteArray → Bool) (lo hi : Int) (x : Nd) : Bool := decide (lo ≤ x.kind ∧ x.kind ≤ hi) && mayN nm x
theorem allN_all {nm : ByteArray → Bool} {lo hi : Int} : ∀ {l : List Nd}, allN nm lo hi l = l.all (okK nm lo hi)
  | [] => rfl
  | x :: r => by simp only [allN, List.all_cons, okK, allN_all (l := r)]
theorem lastN_all {nm : ByteArray → Bool} {lo hi : Int} : ∀ {l : List Nd} {x : Nd}, lastN nm lo hi (l ++ [x]) = (l.all (okK nm lo hi) && okK nm 7 7 x)
  | [], x => by
    simp only [List.nil_append, lastN, List.all_nil, Bool.true_and, okK]
    congr 1
    rw [decide_eq_decide]
    omega
  | [y], x => by
    have := lastN_all (nm := nm) (lo := lo) (hi := hi) (l := []) (x := x)
    simp only [List.nil_append, List.all_nil, Bool.true_and] at this
    simp only [List.cons_append, List.nil_append, lastN, List.all_cons, List.all_nil, Bool.and_true]
    simp only [lastN] at this
    rw [this]
    rfl
  | y :: z :: r, x => by
    have := lastN_all (nm := nm) (lo := lo) (hi := hi) (l := z :: r) (x := x)
    simp only [List.cons_append] at this ⊢
    rw [lastN, this]
    simp only [List.all_cons, okK, Bool.and_assoc]
end Go.Am
end
section
/- Am: the reference's well made trees. -/
set_option linter.unusedSimpArgs false
namespace Go.Am
def hasB (s : ByteArray) (c : UInt8) : Bool := s.data.toList.contains c
theorem has_r {base : Nat} (s : ByteArray) (c : UInt8) (h : Heap) (hs : s.size < 2 ^ 62) : WpF S0 base k_spinnakerref23_has [.sc (.string s), .sc (.int .u8 c.toNat)] h fun v h' => v = .bool (hasB s c) ∧ h' = h := by
  first | refine WpF_pure (A := f_spinnakerref23_has) rfl rfl rfl rfl ?_ | refine WpF_imp (A := f_spinnakerref23_has) rfl rfl rfl rfl ?_
  simp only [f_spinnakerref23_has]
  have hsz := size_list s
  simp only [SQ, SQB, oneCell, AOp.opds, Nat.reduceAdd, step, Opd.get, reduceCtorEq, slcLen, bin, binInt, reduceIte, Nat.reduceEqDiff, IntKind.signed, indexV, asNat?, loadV, cutCells, unary, evRess, evRes1, oneOrTup, wrapV, target, getsO, boundO, sliceV, exTo, Cp.isFull, isNil, moveV, Int.reduceLE, Int.reduceLT, Int.reduceEq, Int.reduceBEq, Int.reduceGT, Int.reduceGE, Nat.reduceLT, Nat.reduceLeDiff]
  refine WpC_loopI (fun k en h' => ∃ i : Nat, k = s.size - i ∧ i ≤ s.size ∧ en 5 = V.int i ∧ en 0 = .sc (.string s) ∧ en 1 = .sc (.int .u8 c.toNat) ∧ (s.data.toList.take i).contains c = false ∧ h' = h) s.size ⟨0, rfl, Nat.zero_le _, rfl, rfl, rfl, rfl, rfl⟩ ?_
  rintro k en h' ⟨i, rfl, hi, e5, e0, e1, hno, rfl⟩
  by_cases h4 : i < s.size
  · have h4' : i < s.data.toList.length := by omega
    have hbi : s[i]? = some s.data.toList[i] := by rw [byte_at, List.getElem?_eq_getElem h4']
    have htk : s.data.toList.take (i + 1) = s.data.toList.take i ++ [s.data.toList[i]] := by rw [List.take_add_one, List.getElem?_eq_getElem h4']; rfl
    by_cases h5 : s.data.toList[i] = c
    · have h5' : (s.data.toList[i].toNat : Int) = c.toNat := by rw [h5]
      simp only [SQ, SQB, oneCell, AOp.opds, Nat.reduceAdd, step, Opd.get, reduceCtorEq, slcLen, bin, binInt, reduceIte, Nat.reduceEqDiff, IntKind.signed, indexV, asNat?, loadV, cutCells, unary, evRess, evRes1, oneOrTup, wrapV, target, getsO, boundO, sliceV, exTo, Cp.isFull, isNil, moveV, Int.reduceLE, Int.reduceLT, Int.reduceEq, Int.reduceBEq, Int.reduceGT, Int.reduceGE, Nat.reduceLT, Nat.reduceLeDiff, e5, e0, e1, h4, hbi, h5']
      have : hasB s c = true := by
        unfold hasB
        rw [List.contains_iff_mem, ← h5]
        exact List.getElem_mem h4'
      rw [this]
    · have h5' : ¬ (s.data.toList[i].toNat : Int) = c.toNat := by
        intro e
        exact h5 (UInt8.toNat_inj.1 (by omega))
      simp only [SQ, SQB, oneCell, AOp.opds, Nat.reduceAdd, step, Opd.get, reduceCtorEq, slcLen, bin, binInt, reduceIte, Nat.reduceEqDiff, IntKind.signed, indexV, asNat?, loadV, cutCells, unary, evRess, evRes1, oneOrTup, wrapV, target, getsO, boundO, sliceV, exTo, Cp.isFull, isNil, moveV, Int.reduceLE, Int.reduceLT, Int.reduceEq, Int.reduceBEq, Int.reduceGT, Int.reduceGE, Nat.reduceLT, Nat.reduceLeDiff, e5, e0, e1, h4, hbi, h5']
      refine ⟨s.size - (i + 1), by omega, i + 1, rfl, by omega, by rw [wrap_i64 (by omega) (by omega)]; rfl, ?_⟩
      rw [htk, List.contains_eq_any_beq, List.any_append, ← List.contains_eq_any_beq, hno]
      have h5'' : ¬ c = s.data[i] := fun e => h5 (by simpa using e.symm)
      simpa using h5''
  · simp only [SQ, SQB, oneCell, AOp.opds, Nat.reduceAdd, step, Opd.get, reduceCtorEq, slcLen, bin, binInt, reduceIte, Nat.reduceEqDiff, IntKind.signed, indexV, asNat?, loadV, cutCells, unary, evRess, evRes1, oneOrTup, wrapV, target, getsO, boundO, sliceV, exTo, Cp.isFull, isNil, moveV, Int.reduceLE, Int.reduceLT, Int.reduceEq, Int.reduceBEq, Int.reduceGT, Int.reduceGE, Nat.reduceLT, Nat.reduceLeDiff, e5, e0, h4]
    have : s.data.toList.take i = s.data.toList := List.take_of_length_le (by omega)
    rw [this] at hno
    unfold hasB
    rw [hno]
theorem blank_r {base : Nat} {x : Nd} {cs : List V} (hx : NdV x cs) (but : ByteArray) (bS bT bN bO bL : Bool) (h : Heap) (hs : but.size < 2 ^ 62) (hS : hasB but 83 = bS) (hT : hasB but 84 = bT) (hN : hasB but 78 = bN) (hO : hasB but 79 = bO) (hL : hasB but 76 = bL) :
    WpF S0 base k_spinnakerref23_blank [.agg cs, .sc (.string but)] h fun v h' => v = .bool (blankB nameB bS bT bN bO bL x) ∧ h' = h := by
  first | refine WpF_pure (A := f_spinnakerref23_blank) rfl rfl rfl rfl ?_ | refine WpF_imp (A := f_spinnakerref23_blank) rfl rfl rfl rfl ?_
  obtain ⟨lv, rfl, hl⟩ := hx.open
  have c83 := fun base h => has_r (base := base) but 83 h hs
  have c84 := fun base h => has_r (base := base) but 84 h hs
  have c78 := fun base h => has_r (base := base) but 78 h hs
  have c79 := fun base h => has_r (base := base) but 79 h hs
  have c76 := fun base h => has_r (base := base) but 76 h hs
  rw [hS] at c83
  rw [hT] at c84
  rw [hN] at c78
  rw [hO] at c79
  rw [hL] at c76
  have u83 : ((83 : UInt8).toNat : Int) = 83 := rfl
  have u84 : ((84 : UInt8).toNat : Int) = 84 := rfl
  have u78 : ((78 : UInt8).toNat : Int) = 78 := rfl
  have u79 : ((79 : UInt8).toNat : Int) = 79 := rfl
  have u76 : ((76 : UInt8).toNat : Int) = 76 := rfl
  rw [u83] at c83
  rw [u84] at c84
  rw [u78] at c78
  rw [u79] at c79
  rw [u76] at c76
  simp only [f_spinnakerref23_blank]
  refine WpC_cut (fun en' h' => en' 1 = .sc (.string but) ∧ en' 2 = .eptr [.sc (.int .i64 x.kind), .sc (.string x.s), .sc (.string x.t), .sc (.int .i64 x.n), .sc (.int .i64 x.ord), .sc (.int .i64 x.line), lv] 0 ∧ h' = h) ?_ ?_
  · simp only [SQ, SQB, oneCell, AOp.opds, Nat.reduceAdd, step, Opd.get, reduceCtorEq, slcLen, bin, binInt, reduceIte, Nat.reduceEqDiff, IntKind.signed, indexV, asNat?, loadV, cutCells, unary, evRess, evRes1, oneOrTup, wrapV, target, getsO, boundO, sliceV, exTo, Cp.isFull, isNil, moveV, Int.reduceLE, Int.reduceLT, Int.reduceEq, Int.reduceBEq, Int.reduceGT, Int.reduceGE, Nat.reduceLT, Nat.reduceLeDiff, SQX, V.cells, hl.gr]
  rintro en1 h1 ⟨e1, e2, rfl⟩
  rw [WpC_seqD, WpC_seqD, WpC_region]
  have ne : ∀ b : ByteArray, (!(b.toList == (⟨#[]⟩ : ByteArray).toList)) = !decide (b.size = 0) := fun b => by rw [empty_list]
  refine WpO_cut 9 (fun en' h' => en' 1 = .sc (.string but) ∧ en' 2 = en1 2 ∧ en' 13 = .bool (!bS && !decide (x.s.size = 0)) ∧ h' = h1) ?_ ?_
  · dsimp only [List.take]
    cases bS <;> simp only [SQ, SQB, oneCell, AOp.opds, Nat.reduceAdd, step, Opd.get, reduceCtorEq, slcLen, bin, binInt, reduceIte, Nat.reduceEqDiff, IntKind.signed, indexV, asNat?, loadV, cutCells, unary, evRess, evRes1, oneOrTup, wrapV, target, getsO, boundO, sliceV, exTo, Cp.isFull, isNil, moveV, Int.reduceLE, Int.reduceLT, Int.reduceEq, Int.reduceBEq, Int.reduceGT, Int.reduceGE, Nat.reduceLT, Nat.reduceLeDiff, SQX, V.cells, e1, e2, callD_ret (c83 _ _), binStr, ne, Bool.false_and]
  rintro en2 h2 ⟨f1, f2, f13, rfl⟩
  rw [e2] at f2
  dsimp only [List.drop]
  generalize hb1 : (!bS && !decide (x.s.size = 0)) = b1 at f13
  refine WpO_cut 10 (fun en' h' => en' 1 = .sc (.string but) ∧ en' 2 = en2 2 ∧ en' 23 = .bool (b1 || (bS && !nameB x.s)) ∧ h' = h2) ?_ ?_
  · dsimp only [List.take]
    cases b1
    · cases bS <;> simp only [SQ, SQB, oneCell, AOp.opds, Nat.reduceAdd, step, Opd.get, reduceCtorEq, slcLen, bin, binInt, reduceIte, Nat.reduceEqDiff, IntKind.signed, indexV, asNat?, loadV, cutCells, unary, evRess, evRes1, oneOrTup, wrapV, target, getsO, boundO, sliceV, exTo, Cp.isFull, isNil, moveV, Int.reduceLE, Int.reduceLT, Int.reduceEq, Int.reduceBEq, Int.reduceGT, Int.reduceGE, Nat.reduceLT, Nat.reduceLeDiff, SQX, V.cells, f1, f2, f13, callD_ret (c83 _ _), callD_ret (refName_r _ _), Bool.false_and, Bool.false_or]
    · simp only [SQ, SQB, oneCell, AOp.opds, Nat.reduceAdd, step, Opd.get, reduceCtorEq, slcLen, bin, binInt, reduceIte, Nat.reduceEqDiff, IntKind.signed, indexV, asNat?, loadV, cutCells, unary, evRess, evRes1, oneOrTup, wrapV, target, getsO, boundO, sliceV, exTo, Cp.isFull, isNil, moveV, Int.reduceLE, Int.reduceLT, Int.reduceEq, Int.reduceBEq, Int.reduceGT, Int.reduceGE, Nat.reduceLT, Nat.reduceLeDiff, SQX, V.cells, f1, f2, f13, Bool.true_or]
  rintro en3 h3 ⟨g1, g2, g23, rfl⟩
  rw [f2] at g2
  dsimp only [List.drop]
  generalize hb2 : (b1 || (bS && !nameB x.s)) = b2 at g23
  refine WpO_cut 9 (fun en' h' => en' 1 = .sc (.string but) ∧ en' 2 = en3 2 ∧ en' 32 = .bool (b2 || (!bT && !decide (x.t.size = 0))) ∧ h' = h3) ?_ ?_
  · dsimp only [List.take]
    cases b2
    · cases bT <;> simp only [SQ, SQB, oneCell, AOp.opds, Nat.reduceAdd, step, Opd.get, reduceCtorEq, slcLen, bin, binInt, reduceIte, Nat.reduceEqDiff, IntKind.signed, indexV, asNat?, loadV, cutCells, unary, evRess, evRes1, oneOrTup, wrapV, target, getsO, boundO, sliceV, exTo, Cp.isFull, isNil, moveV, Int.reduceLE, Int.reduceLT, Int.reduceEq, Int.reduceBEq, Int.reduceGT, Int.reduceGE, Nat.reduceLT, Nat.reduceLeDiff, SQX, V.cells, g1, g2, g23, callD_ret (c84 _ _), binStr, ne, Bool.false_and, Bool.false_or]
    · simp only [SQ, SQB, oneCell, AOp.opds, Nat.reduceAdd, step, Opd.get, reduceCtorEq, slcLen, bin, binInt, reduceIte, Nat.reduceEqDiff, IntKind.signed, indexV, asNat?, loadV, cutCells, unary, evRess, evRes1, oneOrTup, wrapV, target, getsO, boundO, sliceV, exTo, Cp.isFull, isNil, moveV, Int.reduceLE, Int.reduceLT, Int.reduceEq, Int.reduceBEq, Int.reduceGT, Int.reduceGE, Nat.reduceLT, Nat.reduceLeDiff, SQX, V.cells, g1, g2, g23, Bool.true_or]
  rintro en4 h4 ⟨k1, k2, k32, rfl⟩
  rw [g2] at k2
  dsimp only [List.drop]
  generalize hb3 : (b2 || (!bT && !decide (x.t.size = 0))) = b3 at k32
  have key : ∀ p q n z y : Bool, ((if p = true then n else z) && (q || y)) = !(((!p && !z) || (p && !n)) || (!q && !y)) := by decide
  have hpre := key bS bT (nameB x.s) (decide (x.s.size = 0)) (decide (x.t.size = 0))
  rw [hb1, hb2, hb3] at hpre
  cases b3
  · simp only [WpO_nil, thenC_normal, thenC_ret, thenC_exit, WpC_seqD, WpC_condD, WpC_skip, WpC_ret, WpC_exit, WpC_block, blockQ_normal, blockQ_ret, blockQ_exit, WpC_region, Opd.get, condQ_true, condQ_false, reduceIte, k32]
    refine WpO_cut 8 (fun en' h' => en' 1 = .sc (.string but) ∧ en' 2 = en4 2 ∧ en' 40 = .bool (bN || decide (x.n = 0)) ∧ h' = h4) ?_ ?_
    · dsimp only [List.take]
      cases bN <;> simp only [SQ, SQB, oneCell, AOp.opds, Nat.reduceAdd, step, Opd.get, reduceCtorEq, slcLen, bin, binInt, reduceIte, Nat.reduceEqDiff, IntKind.signed, indexV, asNat?, loadV, cutCells, unary, evRess, evRes1, oneOrTup, wrapV, target, getsO, boundO, sliceV, exTo, Cp.isFull, isNil, moveV, Int.reduceLE, Int.reduceLT, Int.reduceEq, Int.reduceBEq, Int.reduceGT, Int.reduceGE, Nat.reduceLT, Nat.reduceLeDiff, SQX, V.cells, k1, k2, callD_ret (c78 _ _), Bool.false_or, Bool.true_or]
    rintro en5 h5 ⟨l1, l2, l40, rfl⟩
    rw [k2] at l2
    dsimp only [List.drop]
    generalize hb4 : (bN || decide (x.n = 0)) = b4 at l40
    refine WpO_cut 9 (fun en' h' => en' 1 = .sc (.string but) ∧ en' 2 = en5 2 ∧ en' 49 = .bool (b4 && (bO || decide (x.ord = 0))) ∧ h' = h5) ?_ ?_
    · dsimp only [List.take]
      cases b4
      · simp only [SQ, SQB, oneCell, AOp.opds, Nat.reduceAdd, step, Opd.get, reduceCtorEq, slcLen, bin, binInt, reduceIte, Nat.reduceEqDiff, IntKind.signed, indexV, asNat?, loadV, cutCells, unary, evRess, evRes1, oneOrTup, wrapV, target, getsO, boundO, sliceV, exTo, Cp.isFull, isNil, moveV, Int.reduceLE, Int.reduceLT, Int.reduceEq, Int.reduceBEq, Int.reduceGT, Int.reduceGE, Nat.reduceLT, Nat.reduceLeDiff, SQX, V.cells, l1, l2, l40, Bool.false_and]
      · cases bO <;> simp only [SQ, SQB, oneCell, AOp.opds, Nat.reduceAdd, step, Opd.get, reduceCtorEq, slcLen, bin, binInt, reduceIte, Nat.reduceEqDiff, IntKind.signed, indexV, asNat?, loadV, cutCells, unary, evRess, evRes1, oneOrTup, wrapV, target, getsO, boundO, sliceV, exTo, Cp.isFull, isNil, moveV, Int.reduceLE, Int.reduceLT, Int.reduceEq, Int.reduceBEq, Int.reduceGT, Int.reduceGE, Nat.reduceLT, Nat.reduceLeDiff, SQX, V.cells, l1, l2, l40, callD_ret (c79 _ _), Bool.false_or, Bool.true_or]
    rintro en6 h6 ⟨m1, m2, m49, rfl⟩
    rw [l2] at m2
    dsimp only [List.drop]
    generalize hb5 : (b4 && (bO || decide (x.ord = 0))) = b5 at m49
    refine WpO_cut 10 (fun en' h' => en' 2 = en6 2 ∧ en' 59 = .bool (b5 && (bL || decide (x.l.length = 0))) ∧ h' = h6) ?_ ?_
    · dsimp only [List.take]
      cases b5
      · simp only [SQ, SQB, oneCell, AOp.opds, Nat.reduceAdd, step, Opd.get, reduceCtorEq, slcLen, bin, binInt, reduceIte, Nat.reduceEqDiff, IntKind.signed, indexV, asNat?, loadV, cutCells, unary, evRess, evRes1, oneOrTup, wrapV, target, getsO, boundO, sliceV, exTo, Cp.isFull, isNil, moveV, Int.reduceLE, Int.reduceLT, Int.reduceEq, Int.reduceBEq, Int.reduceGT, Int.reduceGE, Nat.reduceLT, Nat.reduceLeDiff, SQX, V.cells, m1, m2, m49, Bool.false_and]
      · cases bL
        · simp only [SQ, SQB, oneCell, AOp.opds, Nat.reduceAdd, step, Opd.get, reduceCtorEq, bin, binInt, reduceIte, Nat.reduceEqDiff, IntKind.signed, indexV, asNat?, loadV, cutCells, unary, evRess, evRes1, oneOrTup, wrapV, target, getsO, boundO, sliceV, exTo, Cp.isFull, isNil, moveV, Int.reduceLE, Int.reduceLT, Int.reduceEq, Int.reduceBEq, Int.reduceGT, Int.reduceGE, Nat.reduceLT, Nat.reduceLeDiff, SQX, V.cells, m1, m2, m49, callD_ret (c76 _ _), Bool.false_or, hl.len]
          simp
        · simp only [SQ, SQB, oneCell, AOp.opds, Nat.reduceAdd, step, Opd.get, reduceCtorEq, slcLen, bin, binInt, reduceIte, Nat.reduceEqDiff, IntKind.signed, indexV, asNat?, loadV, cutCells, unary, evRess, evRes1, oneOrTup, wrapV, target, getsO, boundO, sliceV, exTo, Cp.isFull, isNil, moveV, Int.reduceLE, Int.reduceLT, Int.reduceEq, Int.reduceBEq, Int.reduceGT, Int.reduceGE, Nat.reduceLT, Nat.reduceLeDiff, SQX, V.cells, m1, m2, m49, callD_ret (c76 _ _), Bool.true_or]
    rintro en7 h7 ⟨n2, n59, rfl⟩
    rw [m2] at n2
    dsimp only [List.drop]
    generalize hb6 : (b5 && (bL || decide (x.l.length = 0))) = b6 at n59
    have hfin : blankB nameB bS bT bN bO bL x = (b6 && decide (0 ≤ x.line)) := by
      unfold blankB
      rw [← hb6, ← hb5, ← hb4]
      rw [hpre, Bool.not_false, Bool.true_and]
    rw [hfin]
    cases b6 <;> simp only [SQ, SQB, oneCell, AOp.opds, Nat.reduceAdd, step, Opd.get, reduceCtorEq, slcLen, bin, binInt, reduceIte, Nat.reduceEqDiff, IntKind.signed, indexV, asNat?, loadV, cutCells, unary, evRess, evRes1, oneOrTup, wrapV, target, getsO, boundO, sliceV, exTo, Cp.isFull, isNil, moveV, Int.reduceLE, Int.reduceLT, Int.reduceEq, Int.reduceBEq, Int.reduceGT, Int.reduceGE, Nat.reduceLT, Nat.reduceLeDiff, SQX, V.cells, n2, n59, Bool.false_and]
  · have hfin : blankB nameB bS bT bN bO bL x = false := by
      unfold blankB
      rw [hpre]
      simp
    rw [hfin]
    simp only [SQ, SQB, oneCell, AOp.opds, Nat.reduceAdd, step, Opd.get, reduceCtorEq, slcLen, bin, binInt, reduceIte, Nat.reduceEqDiff, IntKind.signed, indexV, asNat?, loadV, cutCells, unary, evRess, evRes1, oneOrTup, wrapV, target, getsO, boundO, sliceV, exTo, Cp.isFull, isNil, moveV, Int.reduceLE, Int.reduceLT, Int.reduceEq, Int.reduceBEq, Int.reduceGT, Int.reduceGE, Nat.reduceLT, Nat.reduceLeDiff, SQX, V.cells, k32]
end Go.Am
end
section
/- Am: what a well made node is, kind by kind (printed by a program). -/
namespace Go.Am
theorem mayN_1 {nm : ByteArray → Bool} {x : Nd} (hk : x.kind = 1) : mayN nm x = (blankB nm false false false false true x && allN nm 2 4 x.l) := by
  cases x with
  | mk k s t n o ln l =>
    simp only [Nd.kind] at hk
    subst hk
    simp [mayN, fieldsB, blankB, ordOk, Nd.kind, Nd.s, Nd.t, Nd.n, Nd.ord, Nd.line, Nd.l]
    try (simp only [Bool.and_assoc, Bool.and_comm, Bool.and_left_comm])
    try (rw [Bool.eq_iff_iff]; simp only [Bool.and_eq_true, decide_eq_true_eq])
theorem mayN_2 {nm : ByteArray → Bool} {x : Nd} (hk : x.kind = 2) : mayN nm x = (blankB nm true false true false false x) := by
  cases x with
  | mk k s t n o ln l =>
    simp only [Nd.kind] at hk
    subst hk
    simp [mayN, fieldsB, blankB, ordOk, Nd.kind, Nd.s, Nd.t, Nd.n, Nd.ord, Nd.line, Nd.l]
    try (simp only [Bool.and_assoc, Bool.and_comm, Bool.and_left_comm])
    try (rw [Bool.eq_iff_iff]; simp only [Bool.and_eq_true, decide_eq_true_eq])
theorem mayN_3 {nm : ByteArray → Bool} {x : Nd} (hk : x.kind = 3) : mayN nm x = (blankB nm true false true false true x && decide (0 ≤ x.n) && decide (x.n < x.l.length) && lastN nm 5 5 x.l) := by
  cases x with
  | mk k s t n o ln l =>
    simp only [Nd.kind] at hk
    subst hk
    simp [mayN, fieldsB, blankB, ordOk, Nd.kind, Nd.s, Nd.t, Nd.n, Nd.ord, Nd.line, Nd.l]
    try (simp only [Bool.and_assoc, Bool.and_comm, Bool.and_left_comm])
    try (rw [Bool.eq_iff_iff]; simp only [Bool.and_eq_true, decide_eq_true_eq])
theorem mayN_4 {nm : ByteArray → Bool} {x : Nd} (hk : x.kind = 4) : mayN nm x = (blankB nm false false false false true x && lastN nm 5 6 x.l) := by
  cases x with
  | mk k s t n o ln l =>
    simp only [Nd.kind] at hk
    subst hk
    simp [mayN, fieldsB, blankB, ordOk, Nd.kind, Nd.s, Nd.t, Nd.n, Nd.ord, Nd.line, Nd.l]
    try (simp only [Bool.and_assoc, Bool.and_comm, Bool.and_left_comm])
    try (rw [Bool.eq_iff_iff]; simp only [Bool.and_eq_true, decide_eq_true_eq])
theorem mayN_5 {nm : ByteArray → Bool} {x : Nd} (hk : x.kind = 5) : mayN nm x = (blankB nm true false false false false x) := by
  cases x with
  | mk k s t n o ln l =>
    simp only [Nd.kind] at hk
    subst hk
    simp [mayN, fieldsB, blankB, ordOk, Nd.kind, Nd.s, Nd.t, Nd.n, Nd.ord, Nd.line, Nd.l]
    try (simp only [Bool.and_assoc, Bool.and_comm, Bool.and_left_comm])
    try (rw [Bool.eq_iff_iff]; simp only [Bool.and_eq_true, decide_eq_true_eq])
theorem mayN_6 {nm : ByteArray → Bool} {x : Nd} (hk : x.kind = 6) : mayN nm x = (blankB nm true false true false false x && decide (0 ≤ x.n)) := by
  cases x with
  | mk k s t n o ln l =>
    simp only [Nd.kind] at hk
    subst hk
    simp [mayN, fieldsB, blankB, ordOk, Nd.kind, Nd.s, Nd.t, Nd.n, Nd.ord, Nd.line, Nd.l]
    try (simp only [Bool.and_assoc, Bool.and_comm, Bool.and_left_comm])
    try (rw [Bool.eq_iff_iff]; simp only [Bool.and_eq_true, decide_eq_true_eq])
theorem mayN_7 {nm : ByteArray → Bool} {x : Nd} (hk : x.kind = 7) : mayN nm x = (blankB nm false false false false true x && allN nm 8 19 x.l) := by
  cases x with
  | mk k s t n o ln l =>
    simp only [Nd.kind] at hk
    subst hk
    simp [mayN, fieldsB, blankB, ordOk, Nd.kind, Nd.s, Nd.t, Nd.n, Nd.ord, Nd.line, Nd.l]
    try (simp only [Bool.and_assoc, Bool.and_comm, Bool.and_left_comm])
    try (rw [Bool.eq_iff_iff]; simp only [Bool.and_eq_true, decide_eq_true_eq])
theorem mayN_8 {nm : ByteArray → Bool} {x : Nd} (hk : x.kind = 8) : mayN nm x = (blankB nm true false false false true x && (decide (x.l.length = 1) && allN nm 20 24 x.l)) := by
  cases x with
  | mk k s t n o ln l =>
    simp only [Nd.kind] at hk
    subst hk
    simp [mayN, fieldsB, blankB, ordOk, Nd.kind, Nd.s, Nd.t, Nd.n, Nd.ord, Nd.line, Nd.l]
    try (simp only [Bool.and_assoc, Bool.and_comm, Bool.and_left_comm])
    try (rw [Bool.eq_iff_iff]; simp only [Bool.and_eq_true, decide_eq_true_eq])
theorem mayN_9 {nm : ByteArray → Bool} {x : Nd} (hk : x.kind = 9) : mayN nm x = (blankB nm true false false false true x && (decide (x.l.length = 2) && allN nm 20 24 x.l)) := by
  cases x with
  | mk k s t n o ln l =>
    simp only [Nd.kind] at hk
    subst hk
    simp [mayN, fieldsB, blankB, ordOk, Nd.kind, Nd.s, Nd.t, Nd.n, Nd.ord, Nd.line, Nd.l]
    try (simp only [Bool.and_assoc, Bool.and_comm, Bool.and_left_comm])
    try (rw [Bool.eq_iff_iff]; simp only [Bool.and_eq_true, decide_eq_true_eq])
theorem mayN_10 {nm : ByteArray → Bool} {x : Nd} (hk : x.kind = 10) : mayN nm x = (blankB nm true true false true false x && nm x.t && decide (x.ord = 0 ∨ x.ord = 1)) := by
  cases x with
  | mk k s t n o ln l =>
    simp only [Nd.kind] at hk
    subst hk
    simp [mayN, fieldsB, blankB, ordOk, Nd.kind, Nd.s, Nd.t, Nd.n, Nd.ord, Nd.line, Nd.l]
    try (simp only [Bool.and_assoc, Bool.and_comm, Bool.and_left_comm])
    try (rw [Bool.eq_iff_iff]; simp only [Bool.and_eq_true, decide_eq_true_eq])
theorem mayN_11 {nm : ByteArray → Bool} {x : Nd} (hk : x.kind = 11) : mayN nm x = (blankB nm true false false true true x && (decide (x.l.length = 1) && allN nm 20 24 x.l) && decide (x.ord = 0 ∨ x.ord = 2)) := by
  cases x with
  | mk k s t n o ln l =>
    simp only [Nd.kind] at hk
    subst hk
    simp [mayN, fieldsB, blankB, ordOk, Nd.kind, Nd.s, Nd.t, Nd.n, Nd.ord, Nd.line, Nd.l]
    try (simp only [Bool.and_assoc, Bool.and_comm, Bool.and_left_comm])
    try (rw [Bool.eq_iff_iff]; simp only [Bool.and_eq_true, decide_eq_true_eq])
theorem mayN_12 {nm : ByteArray → Bool} {x : Nd} (hk : x.kind = 12) : mayN nm x = (blankB nm true true true true true x && nm x.t && decide (1 ≤ x.n ∧ x.n ≤ 7) && (decide (x.l.length = 1) && allN nm 20 24 x.l) && decide (0 ≤ x.ord ∧ x.ord ≤ 3)) := by
  cases x with
  | mk k s t n o ln l =>
    simp only [Nd.kind] at hk
    subst hk
    simp [mayN, fieldsB, blankB, ordOk, Nd.kind, Nd.s, Nd.t, Nd.n, Nd.ord, Nd.line, Nd.l]
    try (simp only [Bool.and_assoc, Bool.and_comm, Bool.and_left_comm])
    try (rw [Bool.eq_iff_iff]; simp only [Bool.and_eq_true, decide_eq_true_eq])
theorem mayN_13 {nm : ByteArray → Bool} {x : Nd} (hk : x.kind = 13) : mayN nm x = (blankB nm true true false true true x && nm x.t && (decide (x.l.length = 2) && allN nm 20 24 x.l) && decide (0 ≤ x.ord ∧ x.ord ≤ 3)) := by
  cases x with
  | mk k s t n o ln l =>
    simp only [Nd.kind] at hk
    subst hk
    simp [mayN, fieldsB, blankB, ordOk, Nd.kind, Nd.s, Nd.t, Nd.n, Nd.ord, Nd.line, Nd.l]
    try (simp only [Bool.and_assoc, Bool.and_comm, Bool.and_left_comm])
    try (rw [Bool.eq_iff_iff]; simp only [Bool.and_eq_true, decide_eq_true_eq])
theorem mayN_14 {nm : ByteArray → Bool} {x : Nd} (hk : x.kind = 14) : mayN nm x = (blankB nm false false false true false x && decide (1 ≤ x.ord ∧ x.ord ≤ 3)) := by
  cases x with
  | mk k s t n o ln l =>
    simp only [Nd.kind] at hk
    subst hk
    simp [mayN, fieldsB, blankB, ordOk, Nd.kind, Nd.s, Nd.t, Nd.n, Nd.ord, Nd.line, Nd.l]
    try (simp only [Bool.and_assoc, Bool.and_comm, Bool.and_left_comm])
    try (rw [Bool.eq_iff_iff]; simp only [Bool.and_eq_true, decide_eq_true_eq])
theorem mayN_15 {nm : ByteArray → Bool} {x : Nd} (hk : x.kind = 15) : mayN nm x = (blankB nm false false false false true x && decide (x.l.length = 2 ∨ x.l.length = 3) && headN nm x.l) := by
  cases x with
  | mk k s t n o ln l =>
    simp only [Nd.kind] at hk
    subst hk
    simp [mayN, fieldsB, blankB, ordOk, Nd.kind, Nd.s, Nd.t, Nd.n, Nd.ord, Nd.line, Nd.l]
    try (simp only [Bool.and_assoc, Bool.and_comm, Bool.and_left_comm])
    try (rw [Bool.eq_iff_iff]; simp only [Bool.and_eq_true, decide_eq_true_eq])
theorem mayN_16 {nm : ByteArray → Bool} {x : Nd} (hk : x.kind = 16) : mayN nm x = (blankB nm false false false false true x && decide (x.l.length = 2) && headN nm x.l) := by
  cases x with
  | mk k s t n o ln l =>
    simp only [Nd.kind] at hk
    subst hk
    simp [mayN, fieldsB, blankB, ordOk, Nd.kind, Nd.s, Nd.t, Nd.n, Nd.ord, Nd.line, Nd.l]
    try (simp only [Bool.and_assoc, Bool.and_comm, Bool.and_left_comm])
    try (rw [Bool.eq_iff_iff]; simp only [Bool.and_eq_true, decide_eq_true_eq])
theorem mayN_17 {nm : ByteArray → Bool} {x : Nd} (hk : x.kind = 17) : mayN nm x = (blankB nm false false false false true x && (decide (x.l.length = 1) && allN nm 20 24 x.l)) := by
  cases x with
  | mk k s t n o ln l =>
    simp only [Nd.kind] at hk
    subst hk
    simp [mayN, fieldsB, blankB, ordOk, Nd.kind, Nd.s, Nd.t, Nd.n, Nd.ord, Nd.line, Nd.l]
    try (simp only [Bool.and_assoc, Bool.and_comm, Bool.and_left_comm])
    try (rw [Bool.eq_iff_iff]; simp only [Bool.and_eq_true, decide_eq_true_eq])
theorem mayN_18 {nm : ByteArray → Bool} {x : Nd} (hk : x.kind = 18) : mayN nm x = (blankB nm true true false false true x && nm x.t && allN nm 20 24 x.l) := by
  cases x with
  | mk k s t n o ln l =>
    simp only [Nd.kind] at hk
    subst hk
    simp [mayN, fieldsB, blankB, ordOk, Nd.kind, Nd.s, Nd.t, Nd.n, Nd.ord, Nd.line, Nd.l]
    try (simp only [Bool.and_assoc, Bool.and_comm, Bool.and_left_comm])
    try (rw [Bool.eq_iff_iff]; simp only [Bool.and_eq_true, decide_eq_true_eq])
theorem mayN_19 {nm : ByteArray → Bool} {x : Nd} (hk : x.kind = 19) : mayN nm x = (blankB nm false false false false false x) := by
  cases x with
  | mk k s t n o ln l =>
    simp only [Nd.kind] at hk
    subst hk
    simp [mayN, fieldsB, blankB, ordOk, Nd.kind, Nd.s, Nd.t, Nd.n, Nd.ord, Nd.line, Nd.l]
    try (simp only [Bool.and_assoc, Bool.and_comm, Bool.and_left_comm])
    try (rw [Bool.eq_iff_iff]; simp only [Bool.and_eq_true, decide_eq_true_eq])
theorem mayN_20 {nm : ByteArray → Bool} {x : Nd} (hk : x.kind = 20) : mayN nm x = (blankB nm false false true false false x && decide (0 ≤ x.n)) := by
  cases x with
  | mk k s t n o ln l =>
    simp only [Nd.kind] at hk
    subst hk
    simp [mayN, fieldsB, blankB, ordOk, Nd.kind, Nd.s, Nd.t, Nd.n, Nd.ord, Nd.line, Nd.l]
    try (simp only [Bool.and_assoc, Bool.and_comm, Bool.and_left_comm])
    try (rw [Bool.eq_iff_iff]; simp only [Bool.and_eq_true, decide_eq_true_eq])
theorem mayN_21 {nm : ByteArray → Bool} {x : Nd} (hk : x.kind = 21) : mayN nm x = (blankB nm true false false false false x) := by
  cases x with
  | mk k s t n o ln l =>
    simp only [Nd.kind] at hk
    subst hk
    simp [mayN, fieldsB, blankB, ordOk, Nd.kind, Nd.s, Nd.t, Nd.n, Nd.ord, Nd.line, Nd.l]
    try (simp only [Bool.and_assoc, Bool.and_comm, Bool.and_left_comm])
    try (rw [Bool.eq_iff_iff]; simp only [Bool.and_eq_true, decide_eq_true_eq])
theorem mayN_22 {nm : ByteArray → Bool} {x : Nd} (hk : x.kind = 22) : mayN nm x = (blankB nm true false false false true x && (decide (x.l.length = 1) && allN nm 20 24 x.l)) := by
  cases x with
  | mk k s t n o ln l =>
    simp only [Nd.kind] at hk
    subst hk
    simp [mayN, fieldsB, blankB, ordOk, Nd.kind, Nd.s, Nd.t, Nd.n, Nd.ord, Nd.line, Nd.l]
    try (simp only [Bool.and_assoc, Bool.and_comm, Bool.and_left_comm])
    try (rw [Bool.eq_iff_iff]; simp only [Bool.and_eq_true, decide_eq_true_eq])
theorem mayN_23 {nm : ByteArray → Bool} {x : Nd} (hk : x.kind = 23) : mayN nm x = (blankB nm false true false false true x && decide (0 < strengthN x.t.data.toList) && (decide (x.l.length = 2) && allN nm 20 24 x.l)) := by
  cases x with
  | mk k s t n o ln l =>
    simp only [Nd.kind] at hk
    subst hk
    simp [mayN, fieldsB, blankB, ordOk, Nd.kind, Nd.s, Nd.t, Nd.n, Nd.ord, Nd.line, Nd.l]
    try (simp only [Bool.and_assoc, Bool.and_comm, Bool.and_left_comm])
    try (rw [Bool.eq_iff_iff]; simp only [Bool.and_eq_true, decide_eq_true_eq])
theorem mayN_24 {nm : ByteArray → Bool} {x : Nd} (hk : x.kind = 24) : mayN nm x = (blankB nm false true false false true x && decide (x.t.data.toList = [45] ∨ x.t.data.toList = [33] ∨ x.t.data.toList = [126]) && (decide (x.l.length = 1) && allN nm 20 24 x.l)) := by
  cases x with
  | mk k s t n o ln l =>
    simp only [Nd.kind] at hk
    subst hk
    simp [mayN, fieldsB, blankB, ordOk, Nd.kind, Nd.s, Nd.t, Nd.n, Nd.ord, Nd.line, Nd.l]
    try (simp only [Bool.and_assoc, Bool.and_comm, Bool.and_left_comm])
    try (rw [Bool.eq_iff_iff]; simp only [Bool.and_eq_true, decide_eq_true_eq])
end Go.Am
end
section
/- Am: signs and expressions. -/
set_option linter.unusedSimpArgs false
namespace Go.Am
theorem tx_list (s : ByteArray) (a : List UInt8) : ((tx a).toList == s.toList) = decide (s.data.toList = a) := by
  rw [ByteArray.toList_eq, ByteArray.toList_eq]
  have e : (tx a).data.toList = a := by simp
  rw [e, beq_symm_list]
  by_cases h : s.data.toList = a
  · rw [h]; simp
  · rw [beq_eq_false_iff_ne.2 h, decide_eq_false h]
theorem inB_tx (l : List (List UInt8)) (s : ByteArray) : inB (l.map tx) s = decide (s.data.toList ∈ l) := by
  unfold inB
  induction l with
  | nil => simp
  | cons a l ih =>
    rw [List.map_cons, List.any_cons, ih, tx_list, ← Bool.decide_or, decide_eq_decide, List.mem_cons]
abbrev T1 : List ByteArray := [[61, 61], [33, 61], [60], [60, 61], [62], [62, 61]].map tx
abbrev T2 : List ByteArray := [[124]].map tx
abbrev T3 : List ByteArray := [[94]].map tx
abbrev T4 : List ByteArray := [[38]].map tx
abbrev T5 : List ByteArray := [[60, 60], [62, 62]].map tx
abbrev T6 : List ByteArray := [[43], [45]].map tx
abbrev T7 : List ByteArray := [[42], [47], [37]].map tx
theorem strength_in (s : ByteArray) : strengthN s.data.toList = if inB T1 s then 1 else if inB T2 s then 2 else if inB T3 s then 3 else if inB T4 s then 4 else if inB T5 s then 5 else if inB T6 s then 6 else if inB T7 s then 7 else 0 := by
  unfold strengthN
  simp only [inB_tx, decide_eq_true_eq, List.mem_cons, List.not_mem_nil, or_false]
theorem refStrength_r {base : Nat} (s : ByteArray) (h : Heap) : WpF S0 base k_spinnakerref23_Strength [.sc (.string s)] h fun v h' => v = V.int (strengthN s.data.toList) ∧ h' = h := by
  first | refine WpF_pure (A := f_spinnakerref23_Strength) rfl rfl rfl rfl ?_ | refine WpF_imp (A := f_spinnakerref23_Strength) rfl rfl rfl rfl ?_
  rw [strength_in]
  simp only [f_spinnakerref23_Strength]
  have f1 : fillRows 1 (List.replicate 6 [(.sc (.string ⟨#[]⟩))]) [(0, ((.sc (.string ⟨#[61, 61]⟩)))), (1, ((.sc (.string ⟨#[33, 61]⟩)))), (2, ((.sc (.string ⟨#[60]⟩)))), (3, ((.sc (.string ⟨#[60, 61]⟩)))), (4, ((.sc (.string ⟨#[62]⟩)))), (5, ((.sc (.string ⟨#[62, 61]⟩))))] = some (T1.map sv) := rfl
  have f2 : fillRows 1 (List.replicate 1 [(.sc (.string ⟨#[]⟩))]) [(0, ((.sc (.string ⟨#[124]⟩))))] = some (T2.map sv) := rfl
  have f3 : fillRows 1 (List.replicate 1 [(.sc (.string ⟨#[]⟩))]) [(0, ((.sc (.string ⟨#[94]⟩))))] = some (T3.map sv) := rfl
  have f4 : fillRows 1 (List.replicate 1 [(.sc (.string ⟨#[]⟩))]) [(0, ((.sc (.string ⟨#[38]⟩))))] = some (T4.map sv) := rfl
  have f5 : fillRows 1 (List.replicate 2 [(.sc (.string ⟨#[]⟩))]) [(0, ((.sc (.string ⟨#[60, 60]⟩)))), (1, ((.sc (.string ⟨#[62, 62]⟩))))] = some (T5.map sv) := rfl
  have f6 : fillRows 1 (List.replicate 2 [(.sc (.string ⟨#[]⟩))]) [(0, ((.sc (.string ⟨#[43]⟩)))), (1, ((.sc (.string ⟨#[45]⟩))))] = some (T6.map sv) := rfl
  have f7 : fillRows 1 (List.replicate 3 [(.sc (.string ⟨#[]⟩))]) [(0, ((.sc (.string ⟨#[42]⟩)))), (1, ((.sc (.string ⟨#[47]⟩)))), (2, ((.sc (.string ⟨#[37]⟩))))] = some (T7.map sv) := rfl
  have f0 : fillRows 1 (List.replicate 0 [V.sc (.string ⟨#[]⟩)]) [] = some [] := rfl
  have g1 : ((T1.map sv).all fun r => r.all ground) = true := rfl
  have g2 : ((T2.map sv).all fun r => r.all ground) = true := rfl
  have g3 : ((T3.map sv).all fun r => r.all ground) = true := rfl
  have g4 : ((T4.map sv).all fun r => r.all ground) = true := rfl
  have g5 : ((T5.map sv).all fun r => r.all ground) = true := rfl
  have g6 : ((T6.map sv).all fun r => r.all ground) = true := rfl
  have g7 : ((T7.map sv).all fun r => r.all ground) = true := rfl
  have f8 : ∀ a b c d e f g k : V, fillRows 1 (List.replicate 8 [V.sc (.slice none 0 0)]) [(0, .slc .lit 1 []), (1, .slc .lit 1 (T1.map sv)), (2, .slc .lit 1 (T2.map sv)), (3, .slc .lit 1 (T3.map sv)), (4, .slc .lit 1 (T4.map sv)), (5, .slc .lit 1 (T5.map sv)), (6, .slc .lit 1 (T6.map sv)), (7, .slc .lit 1 (T7.map sv))] =
    some [[.slc .lit 1 []], [.slc .lit 1 (T1.map sv)], [.slc .lit 1 (T2.map sv)], [.slc .lit 1 (T3.map sv)], [.slc .lit 1 (T4.map sv)], [.slc .lit 1 (T5.map sv)], [.slc .lit 1 (T6.map sv)], [.slc .lit 1 (T7.map sv)]] := fun _ _ _ _ _ _ _ _ => rfl
  have f8 := f8 .undef .undef .undef .undef .undef .undef .undef .undef
  refine WpC_cut (fun en' h' => en' 0 = .sc (.string s) ∧ h' = h) ?_ ?_
  · simp only [SQ, SQB, oneCell, AOp.opds, Nat.reduceAdd, step, Opd.get, reduceCtorEq, slcLen, bin, binInt, reduceIte, Nat.reduceEqDiff, IntKind.signed, indexV, asNat?, loadV, cutCells, unary, evRess, evRes1, oneOrTup, wrapV, target, getsO, boundO, sliceV, exTo, Cp.isFull, isNil, moveV, Int.reduceLE, Int.reduceLT, Int.reduceEq, Int.reduceBEq, Int.reduceGT, Int.reduceGE, Nat.reduceLT, Nat.reduceLeDiff, SQX, V.cells]
  rintro en1 h1 ⟨e0, rfl⟩
  refine WpC_cut (fun en' h' => en' 0 = .sc (.string s) ∧ en' 3 = .slc .lit 1 [[.slc .lit 1 []], [.slc .lit 1 (T1.map sv)], [.slc .lit 1 (T2.map sv)], [.slc .lit 1 (T3.map sv)], [.slc .lit 1 (T4.map sv)], [.slc .lit 1 (T5.map sv)], [.slc .lit 1 (T6.map sv)], [.slc .lit 1 (T7.map sv)]] ∧ h' = h1) ?_ ?_
  · simp only [SQ, SQB, oneCell, AOp.opds, Nat.reduceAdd, step, Opd.get, reduceCtorEq, slcLen, bin, binInt, reduceIte, Nat.reduceEqDiff, IntKind.signed, indexV, asNat?, loadV, cutCells, unary, evRess, evRes1, oneOrTup, wrapV, target, getsO, boundO, sliceV, exTo, Cp.isFull, isNil, moveV, Int.reduceLE, Int.reduceLT, Int.reduceEq, Int.reduceBEq, Int.reduceGT, Int.reduceGE, Nat.reduceLT, Nat.reduceLeDiff, SQX, V.cells, e0, getParts2, f0, f1, f2, f3, f4, f5, f6, f7, f8, g1, g2, g3, g4, g5, g6, g7]
  rintro en2 h2 ⟨e0, e3, rfl⟩
  clear f0 f1 f2 f3 f4 f5 f6 f7 f8 g1 g2 g3 g4 g5 g6 g7
  have c := fun (l : List ByteArray) (hl : l.length < 2 ^ 63) base h => in_r (base := base) l s .lit h hl
  have c1 := c T1 (by decide)
  have c2 := c T2 (by decide)
  have c3 := c T3 (by decide)
  have c4 := c T4 (by decide)
  have c5 := c T5 (by decide)
  have c6 := c T6 (by decide)
  have c7 := c T7 (by decide)
  clear c
  rw [WpC_seqD, WpC_seqD, WpC_region]
  simp only [SQ, SQB, oneCell, AOp.opds, Nat.reduceAdd, step, Opd.get, reduceCtorEq, slcLen, bin, binInt, reduceIte, Nat.reduceEqDiff, IntKind.signed, indexV, asNat?, loadV, cutCells, unary, evRess, evRes1, oneOrTup, wrapV, target, getsO, boundO, sliceV, exTo, Cp.isFull, isNil, moveV, Int.reduceLE, Int.reduceLT, Int.reduceEq, Int.reduceBEq, Int.reduceGT, Int.reduceGE, Nat.reduceLT, Nat.reduceLeDiff, SQX, V.cells]
  refine WpC_loopI (fun k en h' => ∃ i : Nat, k = 8 - i ∧ 1 ≤ i ∧ i ≤ 8 ∧ en 4 = V.int i ∧ en 0 = .sc (.string s) ∧ en 3 = en2 3 ∧ h' = h2 ∧ (1 < i → inB T1 s = false) ∧ (2 < i → inB T2 s = false) ∧ (3 < i → inB T3 s = false) ∧ (4 < i → inB T4 s = false) ∧ (5 < i → inB T5 s = false) ∧ (6 < i → inB T6 s = false) ∧ (7 < i → inB T7 s = false)) 7 ⟨1, rfl, by omega, by omega, rfl, e0, rfl, rfl, by omega, by omega, by omega, by omega, by omega, by omega, by omega⟩ ?_
  rintro k en h' ⟨i, rfl, hi1, hi8, e4, e0', e3', rfl, q1, q2, q3, q4, q5, q6, q7⟩
  rw [e3] at e3'
  have hi : i = 1 ∨ i = 2 ∨ i = 3 ∨ i = 4 ∨ i = 5 ∨ i = 6 ∨ i = 7 ∨ i = 8 := by omega
  have wr : IntKind.wrap .i64 ((i : Int) + 1) = ((i + 1 : Nat) : Int) := by rw [wrap_i64 (by omega) (by omega)]; rfl
  have l8 : ((8 : Nat) : Int) = 8 := rfl
  rcases hi with rfl | rfl | rfl | rfl | rfl | rfl | rfl | rfl
  · have lt : ((1 : Nat) : Int) < 8 := by decide
    cases q : inB T1 s
    · simp only [SQ, SQB, oneCell, AOp.opds, Nat.reduceAdd, step, Opd.get, reduceCtorEq, slcLen, bin, binInt, reduceIte, Nat.reduceEqDiff, IntKind.signed, indexV, asNat?, loadV, cutCells, unary, evRess, evRes1, oneOrTup, wrapV, target, getsO, boundO, sliceV, exTo, Cp.isFull, isNil, moveV, Int.reduceLE, Int.reduceLT, Int.reduceEq, Int.reduceBEq, Int.reduceGT, Int.reduceGE, Nat.reduceLT, Nat.reduceLeDiff, SQX, V.cells, e4, e0', e3', lt, l8, Int.toNat_natCast, callD_ret (c1 _ _), q, wr]
      refine ⟨8 - (1 + 1), by omega, 1 + 1, rfl, by omega, by omega, rfl, e3.symm, ?_⟩
      repeat' (apply And.intro)
      all_goals first | omega | exact fun _ => by assumption | exact fun _ => trivial
    · simp only [SQ, SQB, oneCell, AOp.opds, Nat.reduceAdd, step, Opd.get, reduceCtorEq, slcLen, bin, binInt, reduceIte, Nat.reduceEqDiff, IntKind.signed, indexV, asNat?, loadV, cutCells, unary, evRess, evRes1, oneOrTup, wrapV, target, getsO, boundO, sliceV, exTo, Cp.isFull, isNil, moveV, Int.reduceLE, Int.reduceLT, Int.reduceEq, Int.reduceBEq, Int.reduceGT, Int.reduceGE, Nat.reduceLT, Nat.reduceLeDiff, SQX, V.cells, e4, e0', e3', lt, l8, Int.toNat_natCast, callD_ret (c1 _ _), q]
      try rfl
  · have lt : ((2 : Nat) : Int) < 8 := by decide
    have p1 := q1 (by omega)
    cases q : inB T2 s
    · simp only [SQ, SQB, oneCell, AOp.opds, Nat.reduceAdd, step, Opd.get, reduceCtorEq, slcLen, bin, binInt, reduceIte, Nat.reduceEqDiff, IntKind.signed, indexV, asNat?, loadV, cutCells, unary, evRess, evRes1, oneOrTup, wrapV, target, getsO, boundO, sliceV, exTo, Cp.isFull, isNil, moveV, Int.reduceLE, Int.reduceLT, Int.reduceEq, Int.reduceBEq, Int.reduceGT, Int.reduceGE, Nat.reduceLT, Nat.reduceLeDiff, SQX, V.cells, e4, e0', e3', lt, l8, Int.toNat_natCast, callD_ret (c2 _ _), q, wr]
      refine ⟨8 - (2 + 1), by omega, 2 + 1, rfl, by omega, by omega, rfl, e3.symm, ?_⟩
      repeat' (apply And.intro)
      all_goals first | omega | exact fun _ => by assumption | exact fun _ => trivial
    · simp only [SQ, SQB, oneCell, AOp.opds, Nat.reduceAdd, step, Opd.get, reduceCtorEq, slcLen, bin, binInt, reduceIte, Nat.reduceEqDiff, IntKind.signed, indexV, asNat?, loadV, cutCells, unary, evRess, evRes1, oneOrTup, wrapV, target, getsO, boundO, sliceV, exTo, Cp.isFull, isNil, moveV, Int.reduceLE, Int.reduceLT, Int.reduceEq, Int.reduceBEq, Int.reduceGT, Int.reduceGE, Nat.reduceLT, Nat.reduceLeDiff, SQX, V.cells, e4, e0', e3', lt, l8, Int.toNat_natCast, callD_ret (c2 _ _), q, p1]
      try rfl
  · have lt : ((3 : Nat) : Int) < 8 := by decide
    have p1 := q1 (by omega)
    have p2 := q2 (by omega)
    cases q : inB T3 s
    · simp only [SQ, SQB, oneCell, AOp.opds, Nat.reduceAdd, step, Opd.get, reduceCtorEq, slcLen, bin, binInt, reduceIte, Nat.reduceEqDiff, IntKind.signed, indexV, asNat?, loadV, cutCells, unary, evRess, evRes1, oneOrTup, wrapV, target, getsO, boundO, sliceV, exTo, Cp.isFull, isNil, moveV, Int.reduceLE, Int.reduceLT, Int.reduceEq, Int.reduceBEq, Int.reduceGT, Int.reduceGE, Nat.reduceLT, Nat.reduceLeDiff, SQX, V.cells, e4, e0', e3', lt, l8, Int.toNat_natCast, callD_ret (c3 _ _), q, wr]
      refine ⟨8 - (3 + 1), by omega, 3 + 1, rfl, by omega, by omega, rfl, e3.symm, ?_⟩
      repeat' (apply And.intro)
      all_goals first | omega | exact fun _ => by assumption | exact fun _ => trivial
    · simp only [SQ, SQB, oneCell, AOp.opds, Nat.reduceAdd, step, Opd.get, reduceCtorEq, slcLen, bin, binInt, reduceIte, Nat.reduceEqDiff, IntKind.signed, indexV, asNat?, loadV, cutCells, unary, evRess, evRes1, oneOrTup, wrapV, target, getsO, boundO, sliceV, exTo, Cp.isFull, isNil, moveV, Int.reduceLE, Int.reduceLT, Int.reduceEq, Int.reduceBEq, Int.reduceGT, Int.reduceGE, Nat.reduceLT, Nat.reduceLeDiff, SQX, V.cells, e4, e0', e3', lt, l8, Int.toNat_natCast, callD_ret (c3 _ _), q, p1, p2]
      try rfl
  · have lt : ((4 : Nat) : Int) < 8 := by decide
    have p1 := q1 (by omega)
    have p2 := q2 (by omega)
    have p3 := q3 (by omega)
    cases q : inB T4 s
    · simp only [SQ, SQB, oneCell, AOp.opds, Nat.reduceAdd, step, Opd.get, reduceCtorEq, slcLen, bin, binInt, reduceIte, Nat.reduceEqDiff, IntKind.signed, indexV, asNat?, loadV, cutCells, unary, evRess, evRes1, oneOrTup, wrapV, target, getsO, boundO, sliceV, exTo, Cp.isFull, isNil, moveV, Int.reduceLE, Int.reduceLT, Int.reduceEq, Int.reduceBEq, Int.reduceGT, Int.reduceGE, Nat.reduceLT, Nat.reduceLeDiff, SQX, V.cells, e4, e0', e3', lt, l8, Int.toNat_natCast, callD_ret (c4 _ _), q, wr]
      refine ⟨8 - (4 + 1), by omega, 4 + 1, rfl, by omega, by omega, rfl, e3.symm, ?_⟩
      repeat' (apply And.intro)
      all_goals first | omega | exact fun _ => by assumption | exact fun _ => trivial
    · simp only [SQ, SQB, oneCell, AOp.opds, Nat.reduceAdd, step, Opd.get, reduceCtorEq, slcLen, bin, binInt, reduceIte, Nat.reduceEqDiff, IntKind.signed, indexV, asNat?, loadV, cutCells, unary, evRess, evRes1, oneOrTup, wrapV, target, getsO, boundO, sliceV, exTo, Cp.isFull, isNil, moveV, Int.reduceLE, Int.reduceLT, Int.reduceEq, Int.reduceBEq, Int.reduceGT, Int.reduceGE, Nat.reduceLT, Nat.reduceLeDiff, SQX, V.cells, e4, e0', e3', lt, l8, Int.toNat_natCast, callD_ret (c4 _ _), q, p1, p2, p3]
      try rfl
  · have lt : ((5 : Nat) : Int) < 8 := by decide
    have p1 := q1 (by omega)
    have p2 := q2 (by omega)
    have p3 := q3 (by omega)
    have p4 := q4 (by omega)
    cases q : inB T5 s
    · simp only [SQ, SQB, oneCell, AOp.opds, Nat.reduceAdd, step, Opd.get, reduceCtorEq, slcLen, bin, binInt, reduceIte, Nat.reduceEqDiff, IntKind.signed, indexV, asNat?, loadV, cutCells, unary, evRess, evRes1, oneOrTup, wrapV, target, getsO, boundO, sliceV, exTo, Cp.isFull, isNil, moveV, Int.reduceLE, Int.reduceLT, Int.reduceEq, Int.reduceBEq, Int.reduceGT, Int.reduceGE, Nat.reduceLT, Nat.reduceLeDiff, SQX, V.cells, e4, e0', e3', lt, l8, Int.toNat_natCast, callD_ret (c5 _ _), q, wr]
      refine ⟨8 - (5 + 1), by omega, 5 + 1, rfl, by omega, by omega, rfl, e3.symm, ?_⟩
      repeat' (apply And.intro)
      all_goals first | omega | exact fun _ => by assumption | exact fun _ => trivial
    · simp only [SQ, SQB, oneCell, AOp.opds, Nat.reduceAdd, step, Opd.get, reduceCtorEq, slcLen, bin, binInt, reduceIte, Nat.reduceEqDiff, IntKind.signed, indexV, asNat?, loadV, cutCells, unary, evRess, evRes1, oneOrTup, wrapV, target, getsO, boundO, sliceV, exTo, Cp.isFull, isNil, moveV, Int.reduceLE, Int.reduceLT, Int.reduceEq, Int.reduceBEq, Int.reduceGT, Int.reduceGE, Nat.reduceLT, Nat.reduceLeDiff, SQX, V.cells, e4, e0', e3', lt, l8, Int.toNat_natCast, callD_ret (c5 _ _), q, p1, p2, p3, p4]
      try rfl
  · have lt : ((6 : Nat) : Int) < 8 := by decide
    have p1 := q1 (by omega)
    have p2 := q2 (by omega)
    have p3 := q3 (by omega)
    have p4 := q4 (by omega)
    have p5 := q5 (by omega)
    cases q : inB T6 s
    · simp only [SQ, SQB, oneCell, AOp.opds, Nat.reduceAdd, step, Opd.get, reduceCtorEq, slcLen, bin, binInt, reduceIte, Nat.reduceEqDiff, IntKind.signed, indexV, asNat?, loadV, cutCells, unary, evRess, evRes1, oneOrTup, wrapV, target, getsO, boundO, sliceV, exTo, Cp.isFull, isNil, moveV, Int.reduceLE, Int.reduceLT, Int.reduceEq, Int.reduceBEq, Int.reduceGT, Int.reduceGE, Nat.reduceLT, Nat.reduceLeDiff, SQX, V.cells, e4, e0', e3', lt, l8, Int.toNat_natCast, callD_ret (c6 _ _), q, wr]
      refine ⟨8 - (6 + 1), by omega, 6 + 1, rfl, by omega, by omega, rfl, e3.symm, ?_⟩
      repeat' (apply And.intro)
      all_goals first | omega | exact fun _ => by assumption | exact fun _ => trivial
    · simp only [SQ, SQB, oneCell, AOp.opds, Nat.reduceAdd, step, Opd.get, reduceCtorEq, slcLen, bin, binInt, reduceIte, Nat.reduceEqDiff, IntKind.signed, indexV, asNat?, loadV, cutCells, unary, evRess, evRes1, oneOrTup, wrapV, target, getsO, boundO, sliceV, exTo, Cp.isFull, isNil, moveV, Int.reduceLE, Int.reduceLT, Int.reduceEq, Int.reduceBEq, Int.reduceGT, Int.reduceGE, Nat.reduceLT, Nat.reduceLeDiff, SQX, V.cells, e4, e0', e3', lt, l8, Int.toNat_natCast, callD_ret (c6 _ _), q, p1, p2, p3, p4, p5]
      try rfl
  · have lt : ((7 : Nat) : Int) < 8 := by decide
    have p1 := q1 (by omega)
    have p2 := q2 (by omega)
    have p3 := q3 (by omega)
    have p4 := q4 (by omega)
    have p5 := q5 (by omega)
    have p6 := q6 (by omega)
    cases q : inB T7 s
    · simp only [SQ, SQB, oneCell, AOp.opds, Nat.reduceAdd, step, Opd.get, reduceCtorEq, slcLen, bin, binInt, reduceIte, Nat.reduceEqDiff, IntKind.signed, indexV, asNat?, loadV, cutCells, unary, evRess, evRes1, oneOrTup, wrapV, target, getsO, boundO, sliceV, exTo, Cp.isFull, isNil, moveV, Int.reduceLE, Int.reduceLT, Int.reduceEq, Int.reduceBEq, Int.reduceGT, Int.reduceGE, Nat.reduceLT, Nat.reduceLeDiff, SQX, V.cells, e4, e0', e3', lt, l8, Int.toNat_natCast, callD_ret (c7 _ _), q, wr]
      refine ⟨8 - (7 + 1), by omega, 7 + 1, rfl, by omega, by omega, rfl, e3.symm, ?_⟩
      repeat' (apply And.intro)
      all_goals first | omega | exact fun _ => by assumption | exact fun _ => trivial
    · simp only [SQ, SQB, oneCell, AOp.opds, Nat.reduceAdd, step, Opd.get, reduceCtorEq, slcLen, bin, binInt, reduceIte, Nat.reduceEqDiff, IntKind.signed, indexV, asNat?, loadV, cutCells, unary, evRess, evRes1, oneOrTup, wrapV, target, getsO, boundO, sliceV, exTo, Cp.isFull, isNil, moveV, Int.reduceLE, Int.reduceLT, Int.reduceEq, Int.reduceBEq, Int.reduceGT, Int.reduceGE, Nat.reduceLT, Nat.reduceLeDiff, SQX, V.cells, e4, e0', e3', lt, l8, Int.toNat_natCast, callD_ret (c7 _ _), q, p1, p2, p3, p4, p5, p6]
      try rfl
  · have lt : ¬ ((8 : Nat) : Int) < 8 := by decide
    have p1 := q1 (by omega)
    have p2 := q2 (by omega)
    have p3 := q3 (by omega)
    have p4 := q4 (by omega)
    have p5 := q5 (by omega)
    have p6 := q6 (by omega)
    have p7 := q7 (by omega)
    simp only [SQ, SQB, oneCell, AOp.opds, Nat.reduceAdd, step, Opd.get, reduceCtorEq, slcLen, bin, binInt, reduceIte, Nat.reduceEqDiff, IntKind.signed, indexV, asNat?, loadV, cutCells, unary, evRess, evRes1, oneOrTup, wrapV, target, getsO, boundO, sliceV, exTo, Cp.isFull, isNil, moveV, Int.reduceLE, Int.reduceLT, Int.reduceEq, Int.reduceBEq, Int.reduceGT, Int.reduceGE, Nat.reduceLT, Nat.reduceLeDiff, SQX, V.cells, e4, e0', e3', lt, l8, p1, p2, p3, p4, p5, p6, p7]
    try rfl
end Go.Am
end
section
/- Am: the reference's expressions. -/
set_option linter.unusedSimpArgs false
namespace Go.Am
def ExprOk (x : Nd) : Prop := ∀ (base : Nat) (cs : List V) (h : Heap), NdV x cs → WpF S0 base k_spinnakerref23_Expr [.agg cs] h fun v h' => v = .bool (okK nameB 20 24 x) ∧ h' = h
theorem take_all {α : Type} {p : α → Bool} {l : List α} {i : Nat} (hi : i < l.length) (h : (l.take i).all p = true) (hp : p l[i] = true) : (l.take (i + 1)).all p = true := by
  rw [List.take_add_one, List.getElem?_eq_getElem hi, List.all_append, h]
  simp [hp]
theorem all_not {α : Type} {p : α → Bool} {l : List α} {i : Nat} (hi : i < l.length) (hp : p l[i] = false) : l.all p = false := by
  rw [← Bool.not_eq_true, List.all_eq_true]
  intro q
  rw [q _ (List.getElem_mem hi)] at hp
  simp at hp
theorem agg_load {h : Heap} {r : List V} (h7 : r.length = 7) : loadV h (some 7) (.eptr r 0) = some (.agg r) := by
  simp only [loadV, cutCells, h7]
  simp [← h7]
theorem NdV.len {x : Nd} {cs : List V} (h : NdV x cs) : cs.length = 7 := by
  obtain ⟨lv, rfl, _⟩ := h.open
  rfl
theorem exprs_r {base : Nat} {lv : V} {l : List Nd} (hl : LV lv l) (n : Int) (h : Heap) (hE : ∀ y ∈ l, ExprOk y) : WpF S0 base k_spinnakerref23_exprs [lv, .sc (.int .i64 n)] h fun v h' => v = .bool (decide ((l.length : Int) = n) && allN nameB 20 24 l) ∧ h' = h := by
  first | refine WpF_pure (A := f_spinnakerref23_exprs) rfl rfl rfl rfl ?_ | refine WpF_imp (A := f_spinnakerref23_exprs) rfl rfl rfl rfl ?_
  simp only [f_spinnakerref23_exprs]
  have ll := hl.len
  have lt := hl.lt
  rw [allN_all]
  by_cases hn : (l.length : Int) = n
  · have hn' : ¬ (l.length : Int) ≠ n := fun e => e hn
    simp only [SQ, SQB, oneCell, AOp.opds, Nat.reduceAdd, step, Opd.get, reduceCtorEq, bin, binInt, reduceIte, Nat.reduceEqDiff, IntKind.signed, indexV, asNat?, loadV, cutCells, unary, evRess, evRes1, oneOrTup, wrapV, target, getsO, boundO, sliceV, exTo, Cp.isFull, isNil, moveV, Int.reduceLE, Int.reduceLT, Int.reduceEq, Int.reduceBEq, Int.reduceGT, Int.reduceGE, Nat.reduceLT, Nat.reduceLeDiff, SQX, V.cells, ll, hn, Bool.true_and]
    refine WpC_loopI (fun k en h' => ∃ i : Nat, k = l.length - i ∧ i ≤ l.length ∧ en 5 = V.int i ∧ en 0 = lv ∧ (l.take i).all (okK nameB 20 24) = true ∧ h' = h) l.length ⟨0, rfl, Nat.zero_le _, rfl, rfl, rfl, rfl⟩ ?_
    rintro k en h' ⟨i, rfl, hi, e5, e0, hall, rfl⟩
    by_cases h1 : i < l.length
    · obtain ⟨r, hr1, hr2⟩ := hl.get h1
      have hc := fun base h => hE l[i] (List.getElem_mem h1) base r h hr2
      cases hk : okK nameB 20 24 l[i]
      · rw [hk] at hc
        simp only [SQ, SQB, oneCell, AOp.opds, Nat.reduceAdd, step, Opd.get, reduceCtorEq, bin, binInt, reduceIte, Nat.reduceEqDiff, IntKind.signed, asNat?, cutCells, unary, evRess, evRes1, oneOrTup, wrapV, target, getsO, boundO, sliceV, exTo, Cp.isFull, isNil, moveV, Int.reduceLE, Int.reduceLT, Int.reduceEq, Int.reduceBEq, Int.reduceGT, Int.reduceGE, Nat.reduceLT, Nat.reduceLeDiff, SQX, V.cells, e5, e0, ll, h1, hr1, agg_load hr2.len, callD_ret (hc _ _), all_not h1 hk]
      · rw [hk] at hc
        simp only [SQ, SQB, oneCell, AOp.opds, Nat.reduceAdd, step, Opd.get, reduceCtorEq, bin, binInt, reduceIte, Nat.reduceEqDiff, IntKind.signed, asNat?, cutCells, unary, evRess, evRes1, oneOrTup, wrapV, target, getsO, boundO, sliceV, exTo, Cp.isFull, isNil, moveV, Int.reduceLE, Int.reduceLT, Int.reduceEq, Int.reduceBEq, Int.reduceGT, Int.reduceGE, Nat.reduceLT, Nat.reduceLeDiff, SQX, V.cells, e5, e0, ll, h1, hr1, agg_load hr2.len, callD_ret (hc _ _)]
        exact ⟨l.length - (i + 1), by omega, i + 1, rfl, by omega, by rw [wrap_i64 (by omega) (by omega)]; rfl, take_all h1 hall hk⟩
    · have : l.take i = l := List.take_of_length_le (by omega)
      rw [this] at hall
      simp only [SQ, SQB, oneCell, AOp.opds, Nat.reduceAdd, step, Opd.get, reduceCtorEq, bin, binInt, reduceIte, Nat.reduceEqDiff, IntKind.signed, asNat?, cutCells, unary, evRess, evRes1, oneOrTup, wrapV, target, getsO, boundO, sliceV, exTo, Cp.isFull, isNil, moveV, Int.reduceLE, Int.reduceLT, Int.reduceEq, Int.reduceBEq, Int.reduceGT, Int.reduceGE, Nat.reduceLT, Nat.reduceLeDiff, SQX, V.cells, e5, e0, ll, h1, hall]
  · simp only [SQ, SQB, oneCell, AOp.opds, Nat.reduceAdd, step, Opd.get, reduceCtorEq, bin, binInt, reduceIte, Nat.reduceEqDiff, IntKind.signed, indexV, asNat?, loadV, cutCells, unary, evRess, evRes1, oneOrTup, wrapV, target, getsO, boundO, sliceV, exTo, Cp.isFull, isNil, moveV, Int.reduceLE, Int.reduceLT, Int.reduceEq, Int.reduceBEq, Int.reduceGT, Int.reduceGE, Nat.reduceLT, Nat.reduceLeDiff, SQX, V.cells, ll, hn, Bool.false_and]
end Go.Am
end
section
/- Am: the reference's expressions, whole. -/
set_option linter.unusedSimpArgs false
namespace Go.Am
theorem str_eq (s : ByteArray) (a : List UInt8) : (s.toList == (⟨a.toArray⟩ : ByteArray).toList) = decide (s.data.toList = a) := by
  have := tx_list s a
  rw [beq_symm_list] at this
  exact this
theorem take7 {a b c d e f g : V} : [a, b, c, d, e, f, g].take 7 = [a, b, c, d, e, f, g] := rfl
set_option maxHeartbeats 4000000 in
theorem expr_r (n : Nat) : ∀ (x : Nd), szN x ≤ n → ExprOk x := by
  refine n.rec (fun x hn => ?_) (fun n ih x hn => ?_)
  · cases x; simp [szN] at hn
  have hE : ∀ y ∈ x.l, ExprOk y := fun y hy => ih y (by have := sz_child hy; omega)
  intro base cs h hv
  first | refine WpF_pure (A := f_spinnakerref23_Expr) rfl rfl rfl rfl ?_ | refine WpF_imp (A := f_spinnakerref23_Expr) rfl rfl rfl rfl ?_
  obtain ⟨lv, rfl, hl⟩ := hv.open
  simp only [f_spinnakerref23_Expr]
  refine WpC_cut (fun en' h' => en' 1 = .eptr [.sc (.int .i64 x.kind), .sc (.string x.s), .sc (.string x.t), .sc (.int .i64 x.n), .sc (.int .i64 x.ord), .sc (.int .i64 x.line), lv] 0 ∧ h' = h) ?_ ?_
  · simp only [SQ, SQB, oneCell, AOp.opds, Nat.reduceAdd, step, Opd.get, reduceCtorEq, slcLen, bin, binInt, reduceIte, Nat.reduceEqDiff, IntKind.signed, indexV, asNat?, loadV, cutCells, unary, evRess, evRes1, oneOrTup, wrapV, target, getsO, boundO, sliceV, exTo, Cp.isFull, isNil, moveV, Int.reduceLE, Int.reduceLT, Int.reduceEq, Int.reduceBEq, Int.reduceGT, Int.reduceGE, Nat.reduceLT, Nat.reduceLeDiff, SQX, V.cells, hl.gr]
  rintro en1 h1 ⟨e1, rfl⟩
  by_cases hk : x.kind = 20
  · have hb := fun base h => blank_r (base := base) hv ⟨#[78]⟩ false false true false false h (by decide) (by decide) (by decide) (by decide) (by decide) (by decide)
    have he : okK nameB 20 24 x = mayN nameB x := by simp [okK, hk]
    rw [he, mayN_20 hk]
    rw [hk] at hb e1
    generalize hA : blankB nameB false false true false false x = A at hb
    cases A <;> by_cases p1 : 0 ≤ x.n <;> simp only [SQ, SQB, oneCell, AOp.opds, Nat.reduceAdd, step, Opd.get, reduceCtorEq, bin, binInt, reduceIte, Nat.reduceEqDiff, IntKind.signed, indexV, asNat?, loadV, cutCells, unary, evRess, evRes1, oneOrTup, wrapV, target, getsO, boundO, sliceV, exTo, Cp.isFull, isNil, moveV, Int.reduceLE, Int.reduceLT, Int.reduceEq, Int.reduceBEq, Int.reduceGT, Int.reduceGE, Nat.reduceLT, Nat.reduceLeDiff, SQX, V.cells, hk, hl.len, take7, str_eq, callD_ret (hb _ _), p1, e1, binStr, Bool.and_false, Bool.false_and, Bool.or_false, Bool.false_or, Bool.true_or, Bool.or_true]
    all_goals first | done | (simp; done) | (simp; omega) | omega | skip
  by_cases hk : x.kind = 21
  · have hb := fun base h => blank_r (base := base) hv ⟨#[83]⟩ true false false false false h (by decide) (by decide) (by decide) (by decide) (by decide) (by decide)
    have he : okK nameB 20 24 x = mayN nameB x := by simp [okK, hk]
    rw [he, mayN_21 hk]
    rw [hk] at hb e1
    generalize hA : blankB nameB true false false false false x = A at hb
    cases A <;> simp only [SQ, SQB, oneCell, AOp.opds, Nat.reduceAdd, step, Opd.get, reduceCtorEq, bin, binInt, reduceIte, Nat.reduceEqDiff, IntKind.signed, indexV, asNat?, loadV, cutCells, unary, evRess, evRes1, oneOrTup, wrapV, target, getsO, boundO, sliceV, exTo, Cp.isFull, isNil, moveV, Int.reduceLE, Int.reduceLT, Int.reduceEq, Int.reduceBEq, Int.reduceGT, Int.reduceGE, Nat.reduceLT, Nat.reduceLeDiff, SQX, V.cells, hk, hl.len, take7, str_eq, callD_ret (hb _ _), e1, binStr, Bool.and_false, Bool.false_and, Bool.or_false, Bool.false_or, Bool.true_or, Bool.or_true]
    all_goals first | done | (simp; done) | (simp; omega) | omega | skip
  by_cases hk : x.kind = 22
  · have hb := fun base h => blank_r (base := base) hv ⟨#[83, 76]⟩ true false false false true h (by decide) (by decide) (by decide) (by decide) (by decide) (by decide)
    have he : okK nameB 20 24 x = mayN nameB x := by simp [okK, hk]
    rw [he, mayN_22 hk]
    rw [hk] at hb e1
    generalize hA : blankB nameB true false false false true x = A at hb
    have he1 := fun base h => exprs_r (base := base) hl 1 h hE
    generalize hX1 : (decide ((x.l.length : Int) = 1) && allN nameB 20 24 x.l) = X1 at he1
    have hY1 : (decide (x.l.length = 1) && allN nameB 20 24 x.l) = X1 := by rw [← hX1]; congr 1; rw [decide_eq_decide]; omega
    rw [hY1]
    cases A <;> cases X1 <;> simp only [SQ, SQB, oneCell, AOp.opds, Nat.reduceAdd, step, Opd.get, reduceCtorEq, bin, binInt, reduceIte, Nat.reduceEqDiff, IntKind.signed, indexV, asNat?, loadV, cutCells, unary, evRess, evRes1, oneOrTup, wrapV, target, getsO, boundO, sliceV, exTo, Cp.isFull, isNil, moveV, Int.reduceLE, Int.reduceLT, Int.reduceEq, Int.reduceBEq, Int.reduceGT, Int.reduceGE, Nat.reduceLT, Nat.reduceLeDiff, SQX, V.cells, hk, hl.len, take7, str_eq, callD_ret (hb _ _), callD_ret (he1 _ _), e1, binStr, Bool.and_false, Bool.false_and, Bool.or_false, Bool.false_or, Bool.true_or, Bool.or_true]
    all_goals first | done | (simp; done) | (simp; omega) | omega | skip
  by_cases hk : x.kind = 23
  · have hb := fun base h => blank_r (base := base) hv ⟨#[84, 76]⟩ false true false false true h (by decide) (by decide) (by decide) (by decide) (by decide) (by decide)
    have he : okK nameB 20 24 x = mayN nameB x := by simp [okK, hk]
    rw [he, mayN_23 hk]
    rw [hk] at hb e1
    generalize hA : blankB nameB false true false false true x = A at hb
    have hs1 := fun base h => refStrength_r (base := base) x.t h
    have he2 := fun base h => exprs_r (base := base) hl 2 h hE
    generalize hX2 : (decide ((x.l.length : Int) = 2) && allN nameB 20 24 x.l) = X2 at he2
    have hY2 : (decide (x.l.length = 2) && allN nameB 20 24 x.l) = X2 := by rw [← hX2]; congr 1; rw [decide_eq_decide]; omega
    rw [hY2]
    cases A <;> by_cases p1 : 0 < strengthN x.t.data.toList <;> cases X2 <;> simp only [SQ, SQB, oneCell, AOp.opds, Nat.reduceAdd, step, Opd.get, reduceCtorEq, bin, binInt, reduceIte, Nat.reduceEqDiff, IntKind.signed, indexV, asNat?, loadV, cutCells, unary, evRess, evRes1, oneOrTup, wrapV, target, getsO, boundO, sliceV, exTo, Cp.isFull, isNil, moveV, Int.reduceLE, Int.reduceLT, Int.reduceEq, Int.reduceBEq, Int.reduceGT, Int.reduceGE, Nat.reduceLT, Nat.reduceLeDiff, SQX, V.cells, hk, hl.len, take7, str_eq, callD_ret (hb _ _), callD_ret (hs1 _ _), p1, Int.natCast_pos, callD_ret (he2 _ _), e1, binStr, Bool.and_false, Bool.false_and, Bool.or_false, Bool.false_or, Bool.true_or, Bool.or_true]
    all_goals first | done | (simp; done) | (simp; omega) | omega | skip
  by_cases hk : x.kind = 24
  · have hb := fun base h => blank_r (base := base) hv ⟨#[84, 76]⟩ false true false false true h (by decide) (by decide) (by decide) (by decide) (by decide) (by decide)
    have he : okK nameB 20 24 x = mayN nameB x := by simp [okK, hk]
    rw [he, mayN_24 hk]
    rw [hk] at hb e1
    generalize hA : blankB nameB false true false false true x = A at hb
    have he4 := fun base h => exprs_r (base := base) hl 1 h hE
    generalize hX4 : (decide ((x.l.length : Int) = 1) && allN nameB 20 24 x.l) = X4 at he4
    have hY4 : (decide (x.l.length = 1) && allN nameB 20 24 x.l) = X4 := by rw [← hX4]; congr 1; rw [decide_eq_decide]; omega
    rw [hY4]
    rw [Bool.decide_or, Bool.decide_or]
    cases A <;> cases p1 : decide (x.t.data.toList = [45]) <;> cases p2 : decide (x.t.data.toList = [33]) <;> cases p3 : decide (x.t.data.toList = [126]) <;> cases X4 <;> simp only [SQ, SQB, oneCell, AOp.opds, Nat.reduceAdd, step, Opd.get, reduceCtorEq, bin, binInt, reduceIte, Nat.reduceEqDiff, IntKind.signed, indexV, asNat?, loadV, cutCells, unary, evRess, evRes1, oneOrTup, wrapV, target, getsO, boundO, sliceV, exTo, Cp.isFull, isNil, moveV, Int.reduceLE, Int.reduceLT, Int.reduceEq, Int.reduceBEq, Int.reduceGT, Int.reduceGE, Nat.reduceLT, Nat.reduceLeDiff, SQX, V.cells, hk, hl.len, take7, str_eq, callD_ret (hb _ _), p1, p2, p3, callD_ret (he4 _ _), e1, binStr, Bool.and_false, Bool.false_and, Bool.or_false, Bool.false_or, Bool.true_or, Bool.or_true]
    all_goals first | done | (simp; done) | (simp; omega) | omega | skip
  have he : okK nameB 20 24 x = false := by
    unfold okK
    rw [decide_eq_false (by omega)]
    rfl
  rw [he]
  simp only [SQ, SQB, oneCell, AOp.opds, Nat.reduceAdd, step, Opd.get, reduceCtorEq, slcLen, bin, binInt, reduceIte, Nat.reduceEqDiff, IntKind.signed, indexV, asNat?, loadV, cutCells, unary, evRess, evRes1, oneOrTup, wrapV, target, getsO, boundO, sliceV, exTo, Cp.isFull, isNil, moveV, Int.reduceLE, Int.reduceLT, Int.reduceEq, Int.reduceBEq, Int.reduceGT, Int.reduceGE, Nat.reduceLT, Nat.reduceLeDiff, SQX, V.cells, e1, *]
end Go.Am
end
section
/- Am: the reference's blocks and statements. -/
set_option linter.unusedSimpArgs false
namespace Go.Am
def StmtOk (x : Nd) : Prop := ∀ (base : Nat) (cs : List V) (h : Heap), NdV x cs → WpF S0 base k_spinnakerref23_Stmt [.agg cs] h fun v h' => v = .bool (okK nameB 8 19 x) ∧ h' = h
def BlockOk (x : Nd) : Prop := ∀ (base : Nat) (cs : List V) (h : Heap), NdV x cs → WpF S0 base k_spinnakerref23_Block [.agg cs] h fun v h' => v = .bool (okK nameB 7 7 x) ∧ h' = h
theorem block_of {x : Nd} (hS : ∀ y ∈ x.l, StmtOk y) : BlockOk x := by
  intro base cs h hv
  first | refine WpF_pure (A := f_spinnakerref23_Block) rfl rfl rfl rfl ?_ | refine WpF_imp (A := f_spinnakerref23_Block) rfl rfl rfl rfl ?_
  obtain ⟨lv, rfl, hl⟩ := hv.open
  simp only [f_spinnakerref23_Block]
  refine WpC_cut (fun en' h' => en' 1 = .eptr [.sc (.int .i64 x.kind), .sc (.string x.s), .sc (.string x.t), .sc (.int .i64 x.n), .sc (.int .i64 x.ord), .sc (.int .i64 x.line), lv] 0 ∧ h' = h) ?_ ?_
  · simp only [SQ, SQB, oneCell, AOp.opds, Nat.reduceAdd, step, Opd.get, reduceCtorEq, slcLen, bin, binInt, reduceIte, Nat.reduceEqDiff, IntKind.signed, indexV, asNat?, loadV, cutCells, unary, evRess, evRes1, oneOrTup, wrapV, target, getsO, boundO, sliceV, exTo, Cp.isFull, isNil, moveV, Int.reduceLE, Int.reduceLT, Int.reduceEq, Int.reduceBEq, Int.reduceGT, Int.reduceGE, Nat.reduceLT, Nat.reduceLeDiff, SQX, V.cells, hl.gr]
  rintro en1 h1 ⟨e1, rfl⟩
  by_cases hk : x.kind = 7
  · have hb := fun base h => blank_r (base := base) hv ⟨#[76]⟩ false false false false true h (by decide) (by decide) (by decide) (by decide) (by decide) (by decide)
    have he : okK nameB 7 7 x = mayN nameB x := by simp [okK, hk]
    rw [he, mayN_7 hk, allN_all]
    rw [hk] at hb e1
    have ll := hl.len
    have lt := hl.lt
    generalize hA : blankB nameB false false false false true x = A at hb
    cases A
    · simp only [SQ, SQB, oneCell, AOp.opds, Nat.reduceAdd, step, Opd.get, reduceCtorEq, bin, binInt, reduceIte, Nat.reduceEqDiff, IntKind.signed, indexV, asNat?, loadV, cutCells, unary, evRess, evRes1, oneOrTup, wrapV, target, getsO, boundO, sliceV, exTo, Cp.isFull, isNil, moveV, Int.reduceLE, Int.reduceLT, Int.reduceEq, Int.reduceBEq, Int.reduceGT, Int.reduceGE, Nat.reduceLT, Nat.reduceLeDiff, SQX, V.cells, e1, hk, take7, callD_ret (hb _ _), Bool.false_and]
    · simp only [SQ, SQB, oneCell, AOp.opds, Nat.reduceAdd, step, Opd.get, reduceCtorEq, bin, binInt, reduceIte, Nat.reduceEqDiff, IntKind.signed, indexV, asNat?, loadV, cutCells, unary, evRess, evRes1, oneOrTup, wrapV, target, getsO, boundO, sliceV, exTo, Cp.isFull, isNil, moveV, Int.reduceLE, Int.reduceLT, Int.reduceEq, Int.reduceBEq, Int.reduceGT, Int.reduceGE, Nat.reduceLT, Nat.reduceLeDiff, SQX, V.cells, e1, hk, take7, callD_ret (hb _ _), Bool.true_and]
      refine WpC_loopI (fun k en h' => ∃ i : Nat, k = x.l.length - i ∧ i ≤ x.l.length ∧ en 3 = V.int i ∧ en 1 = en1 1 ∧ (x.l.take i).all (okK nameB 8 19) = true ∧ h' = h1) x.l.length ⟨0, rfl, Nat.zero_le _, rfl, rfl, rfl, rfl⟩ ?_
      rintro k en h' ⟨i, rfl, hi, e3, e0, hall, rfl⟩
      rw [e1] at e0
      by_cases h1 : i < x.l.length
      · obtain ⟨r, hr1, hr2⟩ := hl.get h1
        obtain ⟨lv2, rfl, _⟩ := hr2.open
        have hc := fun base h => hS x.l[i] (List.getElem_mem h1) base _ h hr2
        cases hk : okK nameB 8 19 x.l[i]
        · rw [hk] at hc
          simp only [SQ, SQB, oneCell, AOp.opds, Nat.reduceAdd, step, Opd.get, reduceCtorEq, bin, binInt, reduceIte, Nat.reduceEqDiff, IntKind.signed, asNat?, loadV, cutCells, unary, evRess, evRes1, oneOrTup, wrapV, target, getsO, boundO, sliceV, exTo, Cp.isFull, isNil, moveV, Int.reduceLE, Int.reduceLT, Int.reduceEq, Int.reduceBEq, Int.reduceGT, Int.reduceGE, Nat.reduceLT, Nat.reduceLeDiff, SQX, V.cells, e3, e0, ll, h1, hr1, take7, callD_ret (hc _ _), all_not h1 hk]
        · rw [hk] at hc
          simp only [SQ, SQB, oneCell, AOp.opds, Nat.reduceAdd, step, Opd.get, reduceCtorEq, bin, binInt, reduceIte, Nat.reduceEqDiff, IntKind.signed, asNat?, loadV, cutCells, unary, evRess, evRes1, oneOrTup, wrapV, target, getsO, boundO, sliceV, exTo, Cp.isFull, isNil, moveV, Int.reduceLE, Int.reduceLT, Int.reduceEq, Int.reduceBEq, Int.reduceGT, Int.reduceGE, Nat.reduceLT, Nat.reduceLeDiff, SQX, V.cells, e3, e0, ll, h1, hr1, take7, callD_ret (hc _ _)]
          exact ⟨x.l.length - (i + 1), by omega, i + 1, rfl, by omega, by rw [wrap_i64 (by omega) (by omega)]; rfl, e1.symm, take_all h1 hall hk⟩
      · have : x.l.take i = x.l := List.take_of_length_le (by omega)
        rw [this] at hall
        simp only [SQ, SQB, oneCell, AOp.opds, Nat.reduceAdd, step, Opd.get, reduceCtorEq, bin, binInt, reduceIte, Nat.reduceEqDiff, IntKind.signed, asNat?, loadV, cutCells, unary, evRess, evRes1, oneOrTup, wrapV, target, getsO, boundO, sliceV, exTo, Cp.isFull, isNil, moveV, Int.reduceLE, Int.reduceLT, Int.reduceEq, Int.reduceBEq, Int.reduceGT, Int.reduceGE, Nat.reduceLT, Nat.reduceLeDiff, SQX, V.cells, e3, e0, ll, h1, hall]
  · have he : okK nameB 7 7 x = false := by
      unfold okK
      rw [decide_eq_false (by omega)]
      rfl
    rw [he]
    simp only [SQ, SQB, oneCell, AOp.opds, Nat.reduceAdd, step, Opd.get, reduceCtorEq, slcLen, bin, binInt, reduceIte, Nat.reduceEqDiff, IntKind.signed, indexV, asNat?, loadV, cutCells, unary, evRess, evRes1, oneOrTup, wrapV, target, getsO, boundO, sliceV, exTo, Cp.isFull, isNil, moveV, Int.reduceLE, Int.reduceLT, Int.reduceEq, Int.reduceBEq, Int.reduceGT, Int.reduceGE, Nat.reduceLT, Nat.reduceLeDiff, SQX, V.cells, e1, hk]
end Go.Am
end
