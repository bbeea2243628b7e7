/- The abstract machine and what is proved in it, part 6. -/
import Derived.Test.YtpjdfeplfbmgpaaDoorAm5
section
/- Am: Scan. -/
set_option linter.unusedSimpArgs false
namespace Go.Am

theorem dropWhile_lt {p : UInt8 → Bool} {c : UInt8} {r : List UInt8} (h : p c = true) : ((c :: r).dropWhile p).length < (c :: r).length := by
  rw [List.dropWhile_cons_of_pos h]
  have := (List.dropWhile_sublist (l := r) p).length_le
  simp only [List.length_cons]
  omega
theorem tok_lt {l : List UInt8} {t : Tk} {rest : List UInt8} (h : tok l = some (t, rest)) : rest.length < l.length := by
  cases l with
  | nil => simp [tok] at h
  | cons c r =>
    simp only [tok] at h
    split at h
    · rename_i h1
      split at h
      · simp only [Option.some.injEq, Prod.mk.injEq] at h
        rw [← h.2]
        exact dropWhile_lt (by unfold eitherB; rw [h1]; rfl)
      · simp at h
    · split at h
      · rename_i h1
        split at h
        · simp only [Option.some.injEq, Prod.mk.injEq] at h
          rw [← h.2]
          exact dropWhile_lt h1
        · simp at h
      · simp only [Option.map_eq_some_iff, Prod.mk.injEq] at h
        obtain ⟨m, h1, _, h2⟩ := h
        rw [← h2]
        have hm := signs_ne m (List.mem_of_find?_eq_some h1)
        have : 0 < m.length := List.length_pos_iff.2 hm
        simp only [List.length_drop, List.length_cons]
        omega

/-- The tokens of a text that begins with one, or the line of what is none. -/
def scanA (l : List UInt8) (n : Nat) (acc : List (Tk × Nat)) : Except Nat (List (Tk × Nat)) :=
  if l = [] then .ok acc else
  match tok l with
  | none => .error n
  | some (t, rest) => if _h : rest.length < l.length then scanA (skipC false rest n).1 (skipC false rest n).2 (acc ++ [(t, n)]) else .error n
termination_by l.length
decreasing_by
  have := (skipC_le false rest n).1
  omega

theorem scanA_nil (n : Nat) (acc : List (Tk × Nat)) : scanA [] n acc = .ok acc := by rw [scanA]; rfl
theorem scanA_none {l : List UInt8} {n : Nat} {acc : List (Tk × Nat)} (hl : l ≠ []) (h : tok l = none) : scanA l n acc = .error n := by rw [scanA, if_neg hl, h]
theorem scanA_some {l : List UInt8} {n : Nat} {acc : List (Tk × Nat)} {t : Tk} {rest : List UInt8} (h : tok l = some (t, rest)) : scanA l n acc = scanA (skipC false rest n).1 (skipC false rest n).2 (acc ++ [(t, n)]) := by
  have hl : l ≠ [] := fun e => by rw [e] at h; simp [tok] at h
  conv => lhs; rw [scanA, if_neg hl, h]
  simp only [tok_lt h, dite_true]

abbrev nilV : V := .sc (.slice none 0 0)
abbrev rows (ts : List (Tk × Nat)) : List (List V) := ts.map fun p => rowOf p.1 p.2
def outV (ts : List (Tk × Nat)) : V := if ts = [] then nilV else .slc .any 4 (rows ts)
def scanV (l : List UInt8) : V :=
  if 16384 < l.length then .tup [nilV, V.int 0, V.int 3] else
  match scanA (skipC false l 1).1 (skipC false l 1).2 [] with
  | .ok ts => .tup [outV ts, V.int 0, V.int 0]
  | .error n => .tup [nilV, V.int n, V.int 20]

/-- Tokens so far, as they lie in memory from 'lo' on. -/
def IsOut (h : Heap) (lo : Nat) (x : V) (ts : List (Tk × Nat)) : Prop :=
  (x = nilV ∧ ts = []) ∨ ∃ r e, x = .hsl r e 0 ts.length ∧ h[r]? = some (.row 36 4 e (rows ts)) ∧ lo ≤ r ∧ ts ≠ []

theorem IsOut.set {h : Heap} {lo b : Nat} {x : V} {ts : List (Tk × Nat)} (hi : IsOut h lo x ts) (hb : b < lo) (o : Obj) : IsOut (h.set b o) lo x ts := by
  rcases hi with hi | ⟨r, e, h1, h2, h3, h4⟩
  · exact .inl hi
  · exact .inr ⟨r, e, h1, by rw [List.getElem?_set_ne (by omega)]; exact h2, h3, h4⟩
theorem IsOut.app {h : Heap} {lo : Nat} {x : V} {ts : List (Tk × Nat)} (hi : IsOut h lo x ts) (r' : Heap) : IsOut (h ++ r') lo x ts := by
  rcases hi with hi | ⟨r, e, h1, h2, h3, h4⟩
  · exact .inl hi
  · exact .inr ⟨r, e, h1, by rw [get_low (lt_of_get h2)]; exact h2, h3, h4⟩

theorem IsOut.snoc {base lo : Nat} {h : Heap} {x : V} {ts : List (Tk × Nat)} (hi : IsOut h lo x ts) (hlo : lo ≤ h.length) (hl : ts.length < 2 ^ 30) (t : Tk) (n : Nat) :
    ∃ x' h', appendV base h 36 4 x [rowOf t n] = some (x', h') ∧ IsOut h' lo x' (ts ++ [(t, n)]) ∧ (∀ i, i < lo → h'[i]? = h[i]?) ∧ h.length ≤ h'.length := by
  have hok : newOk 4 [rowOf t n] = true := rfl
  rcases hi with ⟨rfl, rfl⟩ | ⟨r, e, rfl, h2, h3, h4⟩
  · refine ⟨.hsl h.length 0 0 1, h ++ [.row 36 4 0 [rowOf t n]], ?_, .inr ⟨h.length, 0, rfl, ?_, hlo, by simp⟩, fun i hi => get_low (by omega), by simp⟩
    · unfold appendV
      simp only [List.length_cons, List.length_nil, hok, Nat.zero_add]
      rw [if_pos ⟨by decide, trivial⟩]
    · rw [last_get]; rfl
  · have hlt := lt_of_get h2
    refine ⟨.hsl r (e + 1) 0 (ts.length + 1), h.set r (.row 36 4 (e + 1) (rows (ts ++ [(t, n)]))), ?_, .inr ⟨r, e + 1, by simp, set_get hlt, h3, by simp⟩, fun i hi => List.getElem?_set_ne (by omega), by simp⟩
    unfold appendV
    have hm : [rowOf t n].all (mayStore base r) = true := by simp [mayStore, refsLts, refsLt]
    have ht : (rows ts).take ts.length = rows ts := List.take_of_length_le (by simp)
    simp only [h2, List.length_cons, List.length_nil, Nat.zero_add, hok, hm, ht]
    rw [if_pos ⟨trivial, trivial, trivial, by simp, by unfold lim; omega, trivial, trivial⟩]
    simp [rows]

theorem rows_ground (ts : List (Tk × Nat)) : ((rows ts).all fun r => r.all ground) = true := by
  rw [List.all_eq_true]
  intro r hr
  obtain ⟨p, _, rfl⟩ := List.mem_map.1 hr
  rfl
theorem IsOut.frz {base lo : Nat} {h : Heap} {x : V} {ts : List (Tk × Nat)} (hi : IsOut h lo x ts) (hlo : base ≤ lo) {Q : V → Prop} : Frz h base x Q ↔ Q (outV ts) := by
  rcases hi with ⟨rfl, rfl⟩ | ⟨r, e, rfl, h2, h3, h4⟩
  · exact Frz_sci
  · have he : freezeV h base 1 (.hsl r e 0 ts.length) = some (.slc .any 4 (rows ts)) := by
      unfold freezeV rowAt
      have ht : (rows ts).take ts.length = rows ts := List.take_of_length_le (by simp)
      simp only [h2, if_true, show ¬ r < base by omega, if_false, rows_ground, List.drop_zero, ht, List.length_map, Nat.zero_add, Nat.le_refl]
    have ho : outV ts = .slc .any 4 (rows ts) := if_neg h4
    rw [ho]
    exact ⟨fun ⟨_, _, e', q⟩ => freezeV_det e' he ▸ q, fun q => ⟨1, _, he, q⟩⟩

theorem take_of_frame {h h' : Heap} (hf : ∀ i, i < h.length → h'[i]? = h[i]?) : h'.take h.length = h := by
  apply List.ext_getElem?
  intro i
  rw [List.getElem?_take]
  by_cases hi : i < h.length
  · rw [if_pos hi, hf i hi]
  · rw [if_neg hi, List.getElem?_eq_none (by omega)]

theorem scan_r {base : Nat} (ex : Cp) (l : List UInt8) (h : Heap) : WpF S0 base k_lex_Scan [.slc ex 1 (l.map bv)] h fun v h' => v = scanV l ∧ h' = h := by
  refine WpF_pure (A := f_lex_Scan) rfl rfl rfl rfl ?_
  simp only [f_lex_Scan]
  by_cases hbig : 16384 < l.length
  · have hbig' : (16384 : Int) < l.length := by omega
    have hv : scanV l = .tup [nilV, V.int 0, V.int 3] := if_pos hbig
    rw [hv]
    simp only [WpC_skip, WpC_ret, WpC_exit, WpC_region, WpC_seqD, WpC_block, WpC_condD, thenC_normal, thenC_ret, thenC_exit, thenQ_normal, thenQ_ret, thenQ_exit, condQ_true, condQ_false, condQ_bool, opQ_some, opQ_none, guardQ_tt, guardQ_tf, guardQ_ft, guardQ_ff, guardQ_no, blockQ_normal, blockQ_ret, blockQ_exit, endP_ret, endP_normal, endI_ret, endI_normal, resQ_some, Frz_sci, Frz_slci, FrzL_nili, FrzL_consi, Frz_tupi, Frz_aggi, Frz_ifci, oneCell, WpO_keep1, offV_ptr, offV_nil, blkNe_ptr, blkNe_sc, blkNe_slc, blkNe_eptr, blkNe_agg, blkNe_hsl, AOp.opds, Nat.reduceAdd, WpO_opD, WpO_nil, WpO_callD, WpO_guardD, step, Opd.get, put_app, put_none, ne_eq, reduceCtorEq, not_false_eq_true, not_true_eq_false, implies_true, slcLen, Option.map_some, Option.map_none, Option.bind_some, Option.bind_none, bin, binInt, reduceIte, Nat.reduceEqDiff, List.getD_cons_zero, List.getD_cons_succ, IntKind.signed, indexV, asNat?, loadV, cutCells, unary, evRess, evRes1, oneOrTup, wrapV, target, getsO, List.nil_append, List.append_nil, List.cons_append, Bool.false_eq_true, Bool.true_eq_false, decide_eq_true_eq, Bool.not_eq_true', decide_eq_false_iff_not, Bool.not_true, Bool.not_false, List.take_length, and_true, true_and, Int.ofNat_lt, Int.ofNat_le, Int.natCast_nonneg, Int.toNat_natCast, ge_iff_le, gt_iff_lt, if_true, if_false, List.length_map, decide_true, decide_false, int_beq, int_bne, bne_iff_ne, beq_iff_eq, Int.natCast_inj, Bool.and_eq_true, decide_not, Decidable.not_not, boundO, sliceV, exTo, Nat.zero_le, Nat.le_refl, Bool.or_true, beq_self_eq_true, Option.getD_some, Option.getD_none, List.drop_zero, Nat.sub_zero, and_self, or_true, true_or, or_self, false_or, or_false, and_false, false_and, Cp.isFull, isNil, moveV, Nat.add_zero, Nat.zero_add, Int.reduceLE, Int.reduceLT, Int.reduceEq, Int.reduceBEq, Int.reduceGT, Int.reduceGE, Nat.reduceLT, Nat.reduceLeDiff, hbig']
  · have hbig' : ¬ (16384 : Int) < l.length := by omega
    have hv : scanV l = (match scanA (skipC false l 1).1 (skipC false l 1).2 [] with | .ok ts => .tup [outV ts, V.int 0, V.int 0] | .error n => .tup [nilV, V.int n, V.int 20]) := if_neg hbig
    have hf : fillParts [.sc (.slice none 0 0), .sc (.int .i64 (0))] [(0, 1, .slc ex 1 (l.map bv)), (1, 1, .sc (.int .i64 (1)))] = some [.slc ex 1 (l.map bv), V.int 1] := rfl
    have hg0 : (h ++ [Obj.box 53 [.slc ex 1 (l.map bv), V.int 1]])[h.length]? = some (scB ex l 1) := last_get _ _
    obtain ⟨ex0, hw⟩ := skip_r (base := h.length) hg0 (by omega)
    rw [last_set] at hw
    simp only [WpC_skip, WpC_ret, WpC_exit, WpC_region, WpC_seqD, WpC_block, WpC_condD, thenC_normal, thenC_ret, thenC_exit, thenQ_normal, thenQ_ret, thenQ_exit, condQ_true, condQ_false, condQ_bool, opQ_some, opQ_none, guardQ_tt, guardQ_tf, guardQ_ft, guardQ_ff, guardQ_no, blockQ_normal, blockQ_ret, blockQ_exit, endP_ret, endP_normal, endI_ret, endI_normal, resQ_some, Frz_sci, Frz_slci, FrzL_nili, FrzL_consi, Frz_tupi, Frz_aggi, Frz_ifci, oneCell, WpO_keep1, offV_ptr, offV_nil, blkNe_ptr, blkNe_sc, blkNe_slc, blkNe_eptr, blkNe_agg, blkNe_hsl, AOp.opds, Nat.reduceAdd, WpO_opD, WpO_nil, WpO_callD, WpO_guardD, step, Opd.get, put_app, put_none, ne_eq, reduceCtorEq, not_false_eq_true, not_true_eq_false, implies_true, slcLen, Option.map_some, Option.map_none, Option.bind_some, Option.bind_none, bin, binInt, reduceIte, Nat.reduceEqDiff, List.getD_cons_zero, List.getD_cons_succ, IntKind.signed, indexV, asNat?, loadV, cutCells, unary, evRess, evRes1, oneOrTup, wrapV, target, getsO, List.nil_append, List.append_nil, List.cons_append, Bool.false_eq_true, Bool.true_eq_false, decide_eq_true_eq, Bool.not_eq_true', decide_eq_false_iff_not, Bool.not_true, Bool.not_false, List.take_length, and_true, true_and, Int.ofNat_lt, Int.ofNat_le, Int.natCast_nonneg, Int.toNat_natCast, ge_iff_le, gt_iff_lt, if_true, if_false, List.length_map, decide_true, decide_false, int_beq, int_bne, bne_iff_ne, beq_iff_eq, Int.natCast_inj, Bool.and_eq_true, decide_not, Decidable.not_not, boundO, sliceV, exTo, Nat.zero_le, Nat.le_refl, Bool.or_true, beq_self_eq_true, Option.getD_some, Option.getD_none, List.drop_zero, Nat.sub_zero, and_self, or_true, true_or, or_self, false_or, or_false, and_false, false_and, Cp.isFull, isNil, moveV, Nat.add_zero, Nat.zero_add, Int.reduceLE, Int.reduceLT, Int.reduceEq, Int.reduceBEq, Int.reduceGT, Int.reduceGE, Nat.reduceLT, Nat.reduceLeDiff, hbig', getParts, hf, V.cells, List.all_cons, List.all_nil, Bool.and_self, callD_ret hw]
    rw [hv]
    have hle := skipC_le false l 1
    generalize hsk : skipC false l 1 = sk at *
    obtain ⟨l0, n0⟩ := sk
    simp only at *
    refine WpC_loopI (fun k en h' => ∃ ex1 l1 n1 ts, k = List.length l1 ∧ en 5 = .ptr h.length 0 ∧ h'[h.length]? = some (scB ex1 l1 n1) ∧ IsOut h' (h.length + 1) (en 6) ts ∧ (∀ i, i < h.length → h'[i]? = h[i]?) ∧ scanA l1 n1 ts = scanA l0 n0 [] ∧ n1 + l1.length ≤ 16385 ∧ ts.length + l1.length ≤ 16384) l0.length ⟨ex0, l0, n0, [], rfl, rfl, last_get _ _, .inl ⟨rfl, rfl⟩, fun i hi => get_low hi, rfl, by omega, by simp; omega⟩ ?_
    rintro k en h' ⟨ex1, l1, n1, ts, rfl, e5, hb, ho, hfr, hs, hn, hts⟩
    cases l1 with
    | nil =>
      have hfin : scanA l0 n0 [] = .ok ts := by rw [← hs, scanA_nil]
      rw [hfin]
      simp only [WpC_skip, WpC_ret, WpC_exit, WpC_region, WpC_seqD, WpC_block, WpC_condD, thenC_normal, thenC_ret, thenC_exit, thenQ_normal, thenQ_ret, thenQ_exit, condQ_true, condQ_false, condQ_bool, opQ_some, opQ_none, guardQ_tt, guardQ_tf, guardQ_ft, guardQ_ff, guardQ_no, blockQ_normal, blockQ_ret, blockQ_exit, endP_ret, endP_normal, endI_ret, endI_normal, resQ_some, Frz_sci, Frz_slci, FrzL_nili, FrzL_consi, Frz_tupi, Frz_aggi, Frz_ifci, oneCell, WpO_keep1, offV_ptr, offV_nil, blkNe_ptr, blkNe_sc, blkNe_slc, blkNe_eptr, blkNe_agg, blkNe_hsl, AOp.opds, Nat.reduceAdd, WpO_opD, WpO_nil, WpO_callD, WpO_guardD, step, Opd.get, put_app, put_none, ne_eq, reduceCtorEq, not_false_eq_true, not_true_eq_false, implies_true, slcLen, Option.map_some, Option.map_none, Option.bind_some, Option.bind_none, bin, binInt, reduceIte, Nat.reduceEqDiff, List.getD_cons_zero, List.getD_cons_succ, IntKind.signed, indexV, asNat?, loadV, cutCells, unary, evRess, evRes1, oneOrTup, wrapV, target, getsO, List.nil_append, List.append_nil, List.cons_append, Bool.false_eq_true, Bool.true_eq_false, decide_eq_true_eq, Bool.not_eq_true', decide_eq_false_iff_not, Bool.not_true, Bool.not_false, List.take_length, and_true, true_and, Int.ofNat_lt, Int.ofNat_le, Int.natCast_nonneg, Int.toNat_natCast, ge_iff_le, gt_iff_lt, if_true, if_false, List.length_map, decide_true, decide_false, int_beq, int_bne, bne_iff_ne, beq_iff_eq, Int.natCast_inj, Bool.and_eq_true, decide_not, Decidable.not_not, boundO, sliceV, exTo, Nat.zero_le, Nat.le_refl, Bool.or_true, beq_self_eq_true, Option.getD_some, Option.getD_none, List.drop_zero, Nat.sub_zero, and_self, or_true, true_or, or_self, false_or, or_false, and_false, false_and, Cp.isFull, isNil, moveV, Nat.add_zero, Nat.zero_add, Int.reduceLE, Int.reduceLT, Int.reduceEq, Int.reduceBEq, Int.reduceGT, Int.reduceGE, Nat.reduceLT, Nat.reduceLeDiff, e5, hb, List.getElem?_cons_zero, List.map_nil, List.length_nil, Int.lt_irrefl, Int.cast_ofNat_Int, Int.natCast_zero, ho.frz (Nat.le_succ _), take_of_frame hfr]
    | cons c r =>
      have hlt := lt_of_get hb
      have hpos : (0 : Int) < ((r.length + 1 : Nat) : Int) := by omega
      simp only [List.length_cons] at hn hts
      obtain ⟨⟨ex2, l2, t, ext⟩, ht, hw2⟩ := token_r (base := h.length) hb (by simp only [List.length_cons]; omega)
      simp only at ht hw2
      cases htk : tok (c :: r) with
      | none =>
        have hfin : scanA l0 n0 [] = .error n1 := by rw [← hs]; exact scanA_none (by simp) htk
        rw [hfin]
        rw [htk] at hw2
        simp only [Option.isSome_none] at hw2
        have hH : ∀ i, i < h.length → (h'.set h.length (scB ex2 l2 n1) ++ ext)[i]? = h[i]? := fun i hi => by
          rw [get_low (by simp; omega), List.getElem?_set_ne (by omega), hfr i hi]
        have hlen : h.length ≤ (h'.set h.length (scB ex2 l2 n1) ++ ext).length := by simp; omega
        generalize h'.set h.length (scB ex2 l2 n1) ++ ext = H at *
        have hf4 : ∀ r', (H ++ r').take h.length = h := fun r' => take_of_frame fun i hi => by rw [get_low (by omega), hH i hi]
        simp only [WpC_skip, WpC_ret, WpC_exit, WpC_region, WpC_seqD, WpC_block, WpC_condD, thenC_normal, thenC_ret, thenC_exit, thenQ_normal, thenQ_ret, thenQ_exit, condQ_true, condQ_false, condQ_bool, opQ_some, opQ_none, guardQ_tt, guardQ_tf, guardQ_ft, guardQ_ff, guardQ_no, blockQ_normal, blockQ_ret, blockQ_exit, endP_ret, endP_normal, endI_ret, endI_normal, resQ_some, Frz_sci, Frz_slci, FrzL_nili, FrzL_consi, Frz_tupi, Frz_aggi, Frz_ifci, oneCell, WpO_keep1, offV_ptr, offV_nil, blkNe_ptr, blkNe_sc, blkNe_slc, blkNe_eptr, blkNe_agg, blkNe_hsl, AOp.opds, Nat.reduceAdd, WpO_opD, WpO_nil, WpO_callD, WpO_guardD, step, Opd.get, put_app, put_none, ne_eq, reduceCtorEq, not_false_eq_true, not_true_eq_false, implies_true, slcLen, Option.map_some, Option.map_none, Option.bind_some, Option.bind_none, bin, binInt, reduceIte, Nat.reduceEqDiff, List.getD_cons_zero, List.getD_cons_succ, IntKind.signed, indexV, asNat?, loadV, cutCells, unary, evRess, evRes1, oneOrTup, wrapV, target, getsO, List.nil_append, List.append_nil, List.cons_append, Bool.false_eq_true, Bool.true_eq_false, decide_eq_true_eq, Bool.not_eq_true', decide_eq_false_iff_not, Bool.not_true, Bool.not_false, List.take_length, and_true, true_and, Int.ofNat_lt, Int.ofNat_le, Int.natCast_nonneg, Int.toNat_natCast, ge_iff_le, gt_iff_lt, if_true, if_false, List.length_map, decide_true, decide_false, int_beq, int_bne, bne_iff_ne, beq_iff_eq, Int.natCast_inj, Bool.and_eq_true, decide_not, Decidable.not_not, boundO, sliceV, exTo, Nat.zero_le, Nat.le_refl, Bool.or_true, beq_self_eq_true, Option.getD_some, Option.getD_none, List.drop_zero, Nat.sub_zero, and_self, or_true, true_or, or_self, false_or, or_false, and_false, false_and, Cp.isFull, isNil, moveV, Nat.add_zero, Nat.zero_add, Int.reduceLE, Int.reduceLT, Int.reduceEq, Int.reduceBEq, Int.reduceGT, Int.reduceGE, Nat.reduceLT, Nat.reduceLeDiff, e5, hb, List.getElem?_cons_zero, List.getElem?_cons_succ, List.map_cons, List.length_cons, hpos, callD_ret hw2, st0a (hs := H) rfl, List.length_nil, last_get, hf4]
      | some p =>
        obtain ⟨t', rest⟩ := p
        obtain ⟨e1, e2⟩ := ht t' rest htk
        subst e1
        subst e2
        have hlt2 := tok_lt htk
        simp only [List.length_cons] at hlt2
        rw [htk] at hw2
        simp only [Option.isSome_some] at hw2
        have hH : ∀ i, i < h.length → (h'.set h.length (scB ex2 rest n1) ++ ext)[i]? = h[i]? := fun i hi => by
          rw [get_low (by simp; omega), List.getElem?_set_ne (by omega), hfr i hi]
        have hlen : h.length < (h'.set h.length (scB ex2 rest n1) ++ ext).length := by simp; omega
        have hHb : (h'.set h.length (scB ex2 rest n1) ++ ext)[h.length]? = some (scB ex2 rest n1) := by rw [get_low (by simpa using hlt), set_get hlt]
        have hoH := (ho.set (Nat.lt_succ_self h.length) (scB ex2 rest n1)).app ext
        generalize h'.set h.length (scB ex2 rest n1) ++ ext = H at *
        obtain ⟨x', H2, ha, ho2, hf2, hl2⟩ := (hoH.app [.box 36 (rowOf t' n1)]).snoc (base := h.length) (by simp; omega) (by omega) t' n1
        have hH2b : H2[h.length]? = some (scB ex2 rest n1) := by rw [hf2 _ (by omega), get_low hlen, hHb]
        have hle2 := skipC_le false rest n1
        obtain ⟨ex3, hw3⟩ := skip_r (base := h.length) hH2b (by omega)
        have hfr4 : fillRows 4 (List.replicate 1 Zc) [(0, .agg (rowOf t' n1))] = some [rowOf t' n1] := rfl
        have hgr : ([rowOf t' n1].all fun r => r.all ground) = true := rfl
        simp only [WpC_skip, WpC_ret, WpC_exit, WpC_region, WpC_seqD, WpC_block, WpC_condD, thenC_normal, thenC_ret, thenC_exit, thenQ_normal, thenQ_ret, thenQ_exit, condQ_true, condQ_false, condQ_bool, opQ_some, opQ_none, guardQ_tt, guardQ_tf, guardQ_ft, guardQ_ff, guardQ_no, blockQ_normal, blockQ_ret, blockQ_exit, endP_ret, endP_normal, endI_ret, endI_normal, resQ_some, Frz_sci, Frz_slci, FrzL_nili, FrzL_consi, Frz_tupi, Frz_aggi, Frz_ifci, oneCell, WpO_keep1, offV_ptr, offV_nil, blkNe_ptr, blkNe_sc, blkNe_slc, blkNe_eptr, blkNe_agg, blkNe_hsl, AOp.opds, Nat.reduceAdd, WpO_opD, WpO_nil, WpO_callD, WpO_guardD, step, Opd.get, put_app, put_none, ne_eq, reduceCtorEq, not_false_eq_true, not_true_eq_false, implies_true, slcLen, Option.map_some, Option.map_none, Option.bind_some, Option.bind_none, bin, binInt, reduceIte, Nat.reduceEqDiff, List.getD_cons_zero, List.getD_cons_succ, IntKind.signed, indexV, asNat?, loadV, cutCells, unary, evRess, evRes1, oneOrTup, wrapV, target, getsO, List.nil_append, List.append_nil, List.cons_append, Bool.false_eq_true, Bool.true_eq_false, decide_eq_true_eq, Bool.not_eq_true', decide_eq_false_iff_not, Bool.not_true, Bool.not_false, List.take_length, and_true, true_and, Int.ofNat_lt, Int.ofNat_le, Int.natCast_nonneg, Int.toNat_natCast, ge_iff_le, gt_iff_lt, if_true, if_false, List.length_map, decide_true, decide_false, int_beq, int_bne, bne_iff_ne, beq_iff_eq, Int.natCast_inj, Bool.and_eq_true, decide_not, Decidable.not_not, boundO, sliceV, exTo, Nat.zero_le, Nat.le_refl, Bool.or_true, beq_self_eq_true, Option.getD_some, Option.getD_none, List.drop_zero, Nat.sub_zero, and_self, or_true, true_or, or_self, false_or, or_false, and_false, false_and, Cp.isFull, isNil, moveV, Nat.add_zero, Nat.zero_add, Int.reduceLE, Int.reduceLT, Int.reduceEq, Int.reduceBEq, Int.reduceGT, Int.reduceGE, Nat.reduceLT, Nat.reduceLeDiff, e5, hb, List.getElem?_cons_zero, List.getElem?_cons_succ, List.map_cons, List.length_cons, hpos, callD_ret hw2, st0a (hs := H) rfl, List.length_nil, last_get, take4, getParts2, hfr4, hgr, srcRows, elems, ha, callD_ret hw3]
        refine ⟨(skipC false rest n1).1.length, by omega, ex3, (skipC false rest n1).1, (skipC false rest n1).2, ts ++ [(t', n1)], rfl, ?_, ?_, ?_, ?_, by omega, ?_⟩
        · exact set_get (lt_of_get hH2b)
        · exact ho2.set (Nat.lt_succ_self _) _
        · intro i hi
          rw [List.getElem?_set_ne (by omega), hf2 i (by omega), get_low (by omega), hH i hi]
        · rw [← hs, scanA_some htk]
        · simp only [List.length_append, List.length_cons, List.length_nil]
          omega
end Go.Am
end
section
/- Am: the reference's tokens. -/
set_option linter.unusedSimpArgs false
namespace Go.Am

theorem slice_mid (h : Heap) (ex : Cp) (l : List UInt8) (lo hi : Nat) (h1 : lo ≤ hi) (h2 : hi ≤ l.length) : sliceV h 1 (.slc ex 1 (l.map bv)) lo (some hi) none = some (.slc (exTo ex hi l.length none) 1 (((l.drop lo).take (hi - lo)).map bv), h) := by
  simp only [sliceV, List.length_map, Option.getD_none, Option.getD_some, beq_self_eq_true, Bool.or_true, h1, h2, Nat.le_refl, and_self, if_true, ← List.map_drop, List.map_take]

theorem signs_fill : fillRows 1 (List.replicate 27 [(.sc (.string ⟨#[]⟩))]) [(0, ((.sc (.string ⟨#[60, 60]⟩)))), (1, ((.sc (.string ⟨#[62, 62]⟩)))), (2, ((.sc (.string ⟨#[60, 61]⟩)))), (3, ((.sc (.string ⟨#[62, 61]⟩)))), (4, ((.sc (.string ⟨#[61, 61]⟩)))), (5, ((.sc (.string ⟨#[33, 61]⟩)))), (6, ((.sc (.string ⟨#[43]⟩)))), (7, ((.sc (.string ⟨#[45]⟩)))), (8, ((.sc (.string ⟨#[42]⟩)))), (9, ((.sc (.string ⟨#[47]⟩)))), (10, ((.sc (.string ⟨#[37]⟩)))), (11, ((.sc (.string ⟨#[38]⟩)))), (12, ((.sc (.string ⟨#[124]⟩)))), (13, ((.sc (.string ⟨#[94]⟩)))), (14, ((.sc (.string ⟨#[33]⟩)))), (15, ((.sc (.string ⟨#[126]⟩)))), (16, ((.sc (.string ⟨#[60]⟩)))), (17, ((.sc (.string ⟨#[62]⟩)))), (18, ((.sc (.string ⟨#[61]⟩)))), (19, ((.sc (.string ⟨#[40]⟩)))), (20, ((.sc (.string ⟨#[41]⟩)))), (21, ((.sc (.string ⟨#[123]⟩)))), (22, ((.sc (.string ⟨#[125]⟩)))), (23, ((.sc (.string ⟨#[91]⟩)))), (24, ((.sc (.string ⟨#[93]⟩)))), (25, ((.sc (.string ⟨#[44]⟩)))), (26, ((.sc (.string ⟨#[59]⟩))))] = some (signsL.map fun m => sv (bs m)) := rfl
theorem signs_ground : ((signsL.map fun m => sv (bs m)).all fun r => r.all ground) = true := rfl
theorem signs_r {base : Nat} (h : Heap) : WpF S0 base k_spinnakerref22_Signs [] h fun v h' => v = .slc .lit 1 (signsL.map fun m => sv (bs m)) ∧ h' = h := by
  refine WpF_pure (A := f_spinnakerref22_Signs) rfl rfl rfl rfl ?_
  simp only [f_spinnakerref22_Signs]
  simp only [WpC_skip, WpC_ret, WpC_exit, WpC_region, WpC_seqD, WpC_block, WpC_condD, thenC_normal, thenC_ret, thenC_exit, thenQ_normal, thenQ_ret, thenQ_exit, condQ_true, condQ_false, condQ_bool, opQ_some, opQ_none, guardQ_tt, guardQ_tf, guardQ_ft, guardQ_ff, guardQ_no, blockQ_normal, blockQ_ret, blockQ_exit, endP_ret, endP_normal, endI_ret, endI_normal, resQ_some, Frz_sci, Frz_slci, FrzL_nili, FrzL_consi, Frz_tupi, Frz_aggi, Frz_ifci, oneCell, WpO_keep1, offV_ptr, offV_nil, blkNe_ptr, blkNe_sc, blkNe_slc, blkNe_eptr, blkNe_agg, blkNe_hsl, AOp.opds, Nat.reduceAdd, WpO_opD, WpO_nil, WpO_callD, WpO_guardD, step, Opd.get, put_app, put_none, ne_eq, reduceCtorEq, not_false_eq_true, not_true_eq_false, implies_true, slcLen, Option.map_some, Option.map_none, Option.bind_some, Option.bind_none, bin, binInt, reduceIte, Nat.reduceEqDiff, List.getD_cons_zero, List.getD_cons_succ, IntKind.signed, indexV, asNat?, loadV, cutCells, unary, evRess, evRes1, oneOrTup, wrapV, target, getsO, List.nil_append, List.append_nil, List.cons_append, Bool.false_eq_true, Bool.true_eq_false, decide_eq_true_eq, Bool.not_eq_true', decide_eq_false_iff_not, Bool.not_true, Bool.not_false, List.take_length, and_true, true_and, Int.ofNat_lt, Int.ofNat_le, Int.natCast_nonneg, Int.toNat_natCast, ge_iff_le, gt_iff_lt, if_true, if_false, List.length_map, decide_true, decide_false, int_beq, int_bne, bne_iff_ne, beq_iff_eq, Int.natCast_inj, Bool.and_eq_true, decide_not, Decidable.not_not, boundO, sliceV, exTo, Nat.zero_le, Nat.le_refl, Bool.or_true, beq_self_eq_true, Option.getD_some, Option.getD_none, List.drop_zero, Nat.sub_zero, and_self, or_true, true_or, or_self, false_or, or_false, and_false, false_and, Cp.isFull, isNil, moveV, Nat.add_zero, Nat.zero_add, Int.reduceLE, Int.reduceLT, Int.reduceEq, Int.reduceBEq, Int.reduceGT, Int.reduceGE, Nat.reduceLT, Nat.reduceLeDiff, getParts2, signs_fill, signs_ground]

/-- The reference's token of a text at a place: the token, where it ends, whether it is one. -/
def refTok (l : List UInt8) (a : Nat) : Tk × Nat × Bool :=
  match l with
  | [] => ((0, [], 0), a, false)
  | c :: r =>
    if letterB c.toNat = true then ((1, (c :: r).takeWhile eitherB, 0), a + ((c :: r).takeWhile eitherB).length, decide (((c :: r).takeWhile eitherB).length ≤ 32))
    else if digitB c.toNat = true then ((2, [], if valL ((c :: r).takeWhile digB) < 2 ^ 63 then valL ((c :: r).takeWhile digB) else 0), a + ((c :: r).takeWhile digB).length, decide (valL ((c :: r).takeWhile digB) < 2 ^ 63) && farB ((c :: r).dropWhile digB))
    else match signF (c :: r) with
      | some m => ((3, m, 0), a + m.length, true)
      | none => ((0, [], 0), a, false)

theorem drop_takeWhile (p : UInt8 → Bool) (l : List UInt8) : l.drop (l.takeWhile p).length = l.dropWhile p := by
  have := congrArg (List.drop (l.takeWhile p).length) (List.takeWhile_append_dropWhile (p := p) (l := l))
  rw [← this]
  exact List.drop_left

theorem refTok_tok (l : List UInt8) (a : Nat) : tok l = if (refTok l a).2.2 = true then some ((refTok l a).1, l.drop ((refTok l a).2.1 - a)) else none := by
  cases l with
  | nil => rfl
  | cons c r =>
    by_cases h1 : letterB c.toNat = true
    · by_cases h2 : ((c :: r).takeWhile eitherB).length ≤ 32 <;> simp only [tok, refTok, h1, h2, if_true, if_false, decide_true, decide_false, Bool.false_eq_true, Nat.add_sub_cancel_left, drop_takeWhile]
    · by_cases h2 : digitB c.toNat = true
      · by_cases h3 : valL ((c :: r).takeWhile digB) < 2 ^ 63
        · by_cases h4 : farB ((c :: r).dropWhile digB) = true
          · simp only [tok, refTok, h1, h2, h3, h4, if_true, if_false, Bool.false_eq_true, decide_true, Bool.and_self, and_self, Nat.add_sub_cancel_left, drop_takeWhile]
          · simp only [tok, refTok, h1, h2, h3, h4, if_true, if_false, Bool.false_eq_true, decide_true, Bool.true_and, and_false, Nat.add_sub_cancel_left, drop_takeWhile]
        · simp only [tok, refTok, h1, h2, h3, if_true, if_false, decide_false, Bool.false_eq_true, Bool.false_and, false_and, Bool.false_eq_true]
      · simp only [tok, refTok, h1, h2, if_false, Bool.false_eq_true]
        cases signF (c :: r) <;> simp [Nat.add_sub_cancel_left]

/-- As far as all are of a kind. -/
theorem take_while_end {p : UInt8 → Bool} {l : List UInt8} {j : Nat} (hj : j ≤ l.length) (hno : (l.take j).any (fun c => !p c) = false) (hend : ∀ (h : j < l.length), p l[j] = false) : (l.takeWhile p).length = j := by
  by_cases h : j < l.length
  · rw [(take_while_of p l j h (hend h) hno).1]
    simp; omega
  · have hl : l.take j = l := List.take_of_length_le (by omega)
    rw [hl] at hno
    rw [(take_while_all p l hno).1]
    omega
theorem any_snoc {p : UInt8 → Bool} {l : List UInt8} {j : Nat} (h : j < l.length) (hno : (l.take j).any (fun c => !p c) = false) (hp : p l[j] = true) : (l.take (j + 1)).any (fun c => !p c) = false := by
  rw [List.take_add_one, List.getElem?_eq_getElem h, List.any_append, hno]
  simp [hp]

theorem refToken_r {base : Nat} {ex : Cp} {L : List UInt8} {a : Nat} (h : Heap) (ha : a < L.length) (hl : L.length < 2 ^ 30) :
    WpF S0 base k_spinnakerref22_token [.slc ex 1 (L.map bv), V.int a] h fun v h' => v = .tup [.agg (rowOf (refTok (L.drop a) a).1 0), V.int (refTok (L.drop a) a).2.1, .bool (refTok (L.drop a) a).2.2] ∧ h' = h := by
  refine WpF_pure (A := f_spinnakerref22_token) rfl rfl rfl rfl ?_
  simp only [f_spinnakerref22_token]
  have hcons : L.drop a = L[a] :: L.drop (a + 1) := List.drop_eq_getElem_cons ha
  have hga : (L.map bv)[a]? = some (bv L[a]) := by simp [List.getElem?_map, ha]
  have hat : ∀ j, (L.drop a)[j]? = L[a + j]? := fun j => List.getElem?_drop
  have hll : (L.drop a).length = L.length - a := List.length_drop
  generalize hlD : L.drop a = l at *
  have hg : ∀ j (hj : j < l.length), (L.map bv)[a + j]? = some (bv l[j]) := fun j hj => by
    have : L[a + j]? = some l[j] := by rw [← hat, List.getElem?_eq_getElem hj]
    rw [List.getElem?_map, this]; rfl
  by_cases h1 : letterB L[a].toNat = true
  · have hft : ∀ (s : List UInt8), fillParts Zc [(0, 1, V.int 1), (1, 1, .sc (.string (bs s)))] = some (rowOf (1, s, 0) 0) := fun _ => rfl
    simp only [WpC_skip, WpC_ret, WpC_exit, WpC_region, WpC_seqD, WpC_block, WpC_condD, thenC_normal, thenC_ret, thenC_exit, thenQ_normal, thenQ_ret, thenQ_exit, condQ_true, condQ_false, condQ_bool, opQ_some, opQ_none, guardQ_tt, guardQ_tf, guardQ_ft, guardQ_ff, guardQ_no, blockQ_normal, blockQ_ret, blockQ_exit, endP_ret, endP_normal, endI_ret, endI_normal, resQ_some, Frz_sci, Frz_slci, FrzL_nili, FrzL_consi, Frz_tupi, Frz_aggi, Frz_ifci, oneCell, WpO_keep1, offV_ptr, offV_nil, blkNe_ptr, blkNe_sc, blkNe_slc, blkNe_eptr, blkNe_agg, blkNe_hsl, AOp.opds, Nat.reduceAdd, WpO_opD, WpO_nil, WpO_callD, WpO_guardD, step, Opd.get, put_app, put_none, ne_eq, reduceCtorEq, not_false_eq_true, not_true_eq_false, implies_true, slcLen, Option.map_some, Option.map_none, Option.bind_some, Option.bind_none, bin, binInt, reduceIte, Nat.reduceEqDiff, List.getD_cons_zero, List.getD_cons_succ, IntKind.signed, indexV, asNat?, loadV, cutCells, unary, evRess, evRes1, oneOrTup, wrapV, target, getsO, List.nil_append, List.append_nil, List.cons_append, Bool.false_eq_true, Bool.true_eq_false, decide_eq_true_eq, Bool.not_eq_true', decide_eq_false_iff_not, Bool.not_true, Bool.not_false, List.take_length, and_true, true_and, Int.ofNat_lt, Int.ofNat_le, Int.natCast_nonneg, Int.toNat_natCast, ge_iff_le, gt_iff_lt, if_true, if_false, List.length_map, decide_true, decide_false, int_beq, int_bne, bne_iff_ne, beq_iff_eq, Int.natCast_inj, Bool.and_eq_true, decide_not, Decidable.not_not, boundO, sliceV, exTo, Nat.zero_le, Nat.le_refl, Bool.or_true, beq_self_eq_true, Option.getD_some, Option.getD_none, List.drop_zero, Nat.sub_zero, and_self, or_true, true_or, or_self, false_or, or_false, and_false, false_and, Cp.isFull, isNil, moveV, Nat.add_zero, Nat.zero_add, Int.reduceLE, Int.reduceLT, Int.reduceEq, Int.reduceBEq, Int.reduceGT, Int.reduceGE, Nat.reduceLT, Nat.reduceLeDiff, hga, List.getElem?_cons_zero, callD_ret (alpha_r _ _), h1]
    refine WpC_loopI (fun k en h' => ∃ j : Nat, k = l.length - j ∧ j ≤ l.length ∧ en 7 = V.int ((a + j : Nat) : Int) ∧ en 0 = .slc ex 1 (L.map bv) ∧ en 1 = V.int a ∧ en 4 = .ptr h.length 0 ∧ (l.take j).any (fun c => !eitherB c) = false ∧ h' = h ++ [.box 36 Zc]) l.length ⟨0, rfl, Nat.zero_le _, rfl, rfl, rfl, rfl, rfl, rfl⟩ ?_
    rintro k en h' ⟨j, rfl, hj, e7, e0, e1, e4, hno, rfl⟩
    have fin : (l.takeWhile eitherB).length = j → refTok l a = ((1, l.take j, 0), a + j, decide (j ≤ 32)) := fun hlen => by
      have htk : l.takeWhile eitherB = l.take j := by
        have := congrArg (List.take (l.takeWhile eitherB).length) (List.takeWhile_append_dropWhile (p := eitherB) (l := l))
        rw [← hlen, ← this]
        exact List.take_left.symm
      rw [hcons] at htk hlen ⊢
      simp only [refTok, h1, if_true]
      rw [hlen, htk]
    have w3 : ∀ n : Nat, n ≤ L.length → IntKind.wrap .i64 ((n : Nat) : Int) = n := fun n hn => wrap_i64 (by omega) (by omega)
    by_cases h2 : a + j < L.length
    · have h2' : j < l.length := by omega
      have hgj := hg j h2'
      by_cases h3 : letterB l[j].toNat = true
      · simp only [WpC_skip, WpC_ret, WpC_exit, WpC_region, WpC_seqD, WpC_block, WpC_condD, thenC_normal, thenC_ret, thenC_exit, thenQ_normal, thenQ_ret, thenQ_exit, condQ_true, condQ_false, condQ_bool, opQ_some, opQ_none, guardQ_tt, guardQ_tf, guardQ_ft, guardQ_ff, guardQ_no, blockQ_normal, blockQ_ret, blockQ_exit, endP_ret, endP_normal, endI_ret, endI_normal, resQ_some, Frz_sci, Frz_slci, FrzL_nili, FrzL_consi, Frz_tupi, Frz_aggi, Frz_ifci, oneCell, WpO_keep1, offV_ptr, offV_nil, blkNe_ptr, blkNe_sc, blkNe_slc, blkNe_eptr, blkNe_agg, blkNe_hsl, AOp.opds, Nat.reduceAdd, WpO_opD, WpO_nil, WpO_callD, WpO_guardD, step, Opd.get, put_app, put_none, ne_eq, reduceCtorEq, not_false_eq_true, not_true_eq_false, implies_true, slcLen, Option.map_some, Option.map_none, Option.bind_some, Option.bind_none, bin, binInt, reduceIte, Nat.reduceEqDiff, List.getD_cons_zero, List.getD_cons_succ, IntKind.signed, indexV, asNat?, loadV, cutCells, unary, evRess, evRes1, oneOrTup, wrapV, target, getsO, List.nil_append, List.append_nil, List.cons_append, Bool.false_eq_true, Bool.true_eq_false, decide_eq_true_eq, Bool.not_eq_true', decide_eq_false_iff_not, Bool.not_true, Bool.not_false, List.take_length, and_true, true_and, Int.ofNat_lt, Int.ofNat_le, Int.natCast_nonneg, Int.toNat_natCast, ge_iff_le, gt_iff_lt, if_true, if_false, List.length_map, decide_true, decide_false, int_beq, int_bne, bne_iff_ne, beq_iff_eq, Int.natCast_inj, Bool.and_eq_true, decide_not, Decidable.not_not, boundO, sliceV, exTo, Nat.zero_le, Nat.le_refl, Bool.or_true, beq_self_eq_true, Option.getD_some, Option.getD_none, List.drop_zero, Nat.sub_zero, and_self, or_true, true_or, or_self, false_or, or_false, and_false, false_and, Cp.isFull, isNil, moveV, Nat.add_zero, Nat.zero_add, Int.reduceLE, Int.reduceLT, Int.reduceEq, Int.reduceBEq, Int.reduceGT, Int.reduceGE, Nat.reduceLT, Nat.reduceLeDiff, e7, e0, e1, e4, h2, hgj, List.getElem?_cons_zero, callD_ret (alpha_r _ _), h3]
        exact ⟨l.length - (j + 1), by omega, j + 1, rfl, by omega, by rw [wrap_i64 (by omega) (by omega)]; rfl, any_snoc h2' hno (by unfold eitherB; rw [h3]; rfl)⟩
      · rw [Bool.not_eq_true] at h3
        by_cases h4 : digitB l[j].toNat = true
        · simp only [WpC_skip, WpC_ret, WpC_exit, WpC_region, WpC_seqD, WpC_block, WpC_condD, thenC_normal, thenC_ret, thenC_exit, thenQ_normal, thenQ_ret, thenQ_exit, condQ_true, condQ_false, condQ_bool, opQ_some, opQ_none, guardQ_tt, guardQ_tf, guardQ_ft, guardQ_ff, guardQ_no, blockQ_normal, blockQ_ret, blockQ_exit, endP_ret, endP_normal, endI_ret, endI_normal, resQ_some, Frz_sci, Frz_slci, FrzL_nili, FrzL_consi, Frz_tupi, Frz_aggi, Frz_ifci, oneCell, WpO_keep1, offV_ptr, offV_nil, blkNe_ptr, blkNe_sc, blkNe_slc, blkNe_eptr, blkNe_agg, blkNe_hsl, AOp.opds, Nat.reduceAdd, WpO_opD, WpO_nil, WpO_callD, WpO_guardD, step, Opd.get, put_app, put_none, ne_eq, reduceCtorEq, not_false_eq_true, not_true_eq_false, implies_true, slcLen, Option.map_some, Option.map_none, Option.bind_some, Option.bind_none, bin, binInt, reduceIte, Nat.reduceEqDiff, List.getD_cons_zero, List.getD_cons_succ, IntKind.signed, indexV, asNat?, loadV, cutCells, unary, evRess, evRes1, oneOrTup, wrapV, target, getsO, List.nil_append, List.append_nil, List.cons_append, Bool.false_eq_true, Bool.true_eq_false, decide_eq_true_eq, Bool.not_eq_true', decide_eq_false_iff_not, Bool.not_true, Bool.not_false, List.take_length, and_true, true_and, Int.ofNat_lt, Int.ofNat_le, Int.natCast_nonneg, Int.toNat_natCast, ge_iff_le, gt_iff_lt, if_true, if_false, List.length_map, decide_true, decide_false, int_beq, int_bne, bne_iff_ne, beq_iff_eq, Int.natCast_inj, Bool.and_eq_true, decide_not, Decidable.not_not, boundO, sliceV, exTo, Nat.zero_le, Nat.le_refl, Bool.or_true, beq_self_eq_true, Option.getD_some, Option.getD_none, List.drop_zero, Nat.sub_zero, and_self, or_true, true_or, or_self, false_or, or_false, and_false, false_and, Cp.isFull, isNil, moveV, Nat.add_zero, Nat.zero_add, Int.reduceLE, Int.reduceLT, Int.reduceEq, Int.reduceBEq, Int.reduceGT, Int.reduceGE, Nat.reduceLT, Nat.reduceLeDiff, e7, e0, e1, e4, h2, hgj, List.getElem?_cons_zero, callD_ret (alpha_r _ _), callD_ret (num_r _ _), h3, h4]
          exact ⟨l.length - (j + 1), by omega, j + 1, rfl, by omega, by rw [wrap_i64 (by omega) (by omega)]; rfl, any_snoc h2' hno (by unfold eitherB; rw [h4, Bool.or_true])⟩
        · rw [Bool.not_eq_true] at h4
          have hr := fin (take_while_end hj hno fun _ => by unfold eitherB; rw [h3, h4]; rfl)
          have wj : IntKind.wrap .i64 (((a + j : Nat) : Int) - (a : Int)) = (j : Nat) := by rw [wrap_i64 (by omega) (by omega)]; omega
          have hsl := fun h => slice_mid h ex L a (a + j) (by omega) (by omega)
          rw [hlD, Nat.add_sub_cancel_left] at hsl
          have h32 : ((j : Nat) : Int) ≤ 32 ↔ j ≤ 32 := by omega
          simp only [WpC_skip, WpC_ret, WpC_exit, WpC_region, WpC_seqD, WpC_block, WpC_condD, thenC_normal, thenC_ret, thenC_exit, thenQ_normal, thenQ_ret, thenQ_exit, condQ_true, condQ_false, condQ_bool, opQ_some, opQ_none, guardQ_tt, guardQ_tf, guardQ_ft, guardQ_ff, guardQ_no, blockQ_normal, blockQ_ret, blockQ_exit, endP_ret, endP_normal, endI_ret, endI_normal, resQ_some, Frz_sci, Frz_slci, FrzL_nili, FrzL_consi, Frz_tupi, Frz_aggi, Frz_ifci, oneCell, WpO_keep1, offV_ptr, offV_nil, blkNe_ptr, blkNe_sc, blkNe_slc, blkNe_eptr, blkNe_agg, blkNe_hsl, AOp.opds, Nat.reduceAdd, WpO_opD, WpO_nil, WpO_callD, WpO_guardD, step, Opd.get, put_app, put_none, ne_eq, reduceCtorEq, not_false_eq_true, not_true_eq_false, implies_true, slcLen, Option.map_some, Option.map_none, Option.bind_some, Option.bind_none, bin, binInt, reduceIte, Nat.reduceEqDiff, List.getD_cons_zero, List.getD_cons_succ, IntKind.signed, indexV, asNat?, loadV, cutCells, unary, evRess, evRes1, oneOrTup, wrapV, target, getsO, List.nil_append, List.append_nil, List.cons_append, Bool.false_eq_true, Bool.true_eq_false, decide_eq_true_eq, Bool.not_eq_true', decide_eq_false_iff_not, Bool.not_true, Bool.not_false, List.take_length, and_true, true_and, Int.ofNat_lt, Int.ofNat_le, Int.natCast_nonneg, Int.toNat_natCast, ge_iff_le, gt_iff_lt, if_true, if_false, List.length_map, decide_true, decide_false, int_beq, int_bne, bne_iff_ne, beq_iff_eq, Int.natCast_inj, Bool.and_eq_true, decide_not, Decidable.not_not, boundO, exTo, Nat.zero_le, Nat.le_refl, Bool.or_true, beq_self_eq_true, Option.getD_some, Option.getD_none, List.drop_zero, Nat.sub_zero, and_self, or_true, true_or, or_self, false_or, or_false, and_false, false_and, Cp.isFull, isNil, moveV, Nat.add_zero, Nat.zero_add, Int.reduceLE, Int.reduceLT, Int.reduceEq, Int.reduceBEq, Int.reduceGT, Int.reduceGE, Nat.reduceLT, Nat.reduceLeDiff, e7, e0, e1, e4, h2, hgj, List.getElem?_cons_zero, callD_ret (alpha_r _ _), callD_ret (num_r _ _), h3, h4, hsl, elems, bytesIn_bv, getParts, hft, wj, h32, st0a (hs := h) rfl, List.length_cons, List.length_nil, last_get, take4, last_take]
          rw [hr]
    · have hjl : j = l.length := by omega
      have hr := fin (take_while_end hj hno fun hh => absurd hh (by omega))
      have wj : IntKind.wrap .i64 (((a + j : Nat) : Int) - (a : Int)) = (j : Nat) := by rw [wrap_i64 (by omega) (by omega)]; omega
      have hsl := fun h => slice_mid h ex L a (a + j) (by omega) (by omega)
      rw [hlD, Nat.add_sub_cancel_left] at hsl
      have h32 : ((j : Nat) : Int) ≤ 32 ↔ j ≤ 32 := by omega
      simp only [WpC_skip, WpC_ret, WpC_exit, WpC_region, WpC_seqD, WpC_block, WpC_condD, thenC_normal, thenC_ret, thenC_exit, thenQ_normal, thenQ_ret, thenQ_exit, condQ_true, condQ_false, condQ_bool, opQ_some, opQ_none, guardQ_tt, guardQ_tf, guardQ_ft, guardQ_ff, guardQ_no, blockQ_normal, blockQ_ret, blockQ_exit, endP_ret, endP_normal, endI_ret, endI_normal, resQ_some, Frz_sci, Frz_slci, FrzL_nili, FrzL_consi, Frz_tupi, Frz_aggi, Frz_ifci, oneCell, WpO_keep1, offV_ptr, offV_nil, blkNe_ptr, blkNe_sc, blkNe_slc, blkNe_eptr, blkNe_agg, blkNe_hsl, AOp.opds, Nat.reduceAdd, WpO_opD, WpO_nil, WpO_callD, WpO_guardD, step, Opd.get, put_app, put_none, ne_eq, reduceCtorEq, not_false_eq_true, not_true_eq_false, implies_true, slcLen, Option.map_some, Option.map_none, Option.bind_some, Option.bind_none, bin, binInt, reduceIte, Nat.reduceEqDiff, List.getD_cons_zero, List.getD_cons_succ, IntKind.signed, indexV, asNat?, loadV, cutCells, unary, evRess, evRes1, oneOrTup, wrapV, target, getsO, List.nil_append, List.append_nil, List.cons_append, Bool.false_eq_true, Bool.true_eq_false, decide_eq_true_eq, Bool.not_eq_true', decide_eq_false_iff_not, Bool.not_true, Bool.not_false, List.take_length, and_true, true_and, Int.ofNat_lt, Int.ofNat_le, Int.natCast_nonneg, Int.toNat_natCast, ge_iff_le, gt_iff_lt, if_true, if_false, List.length_map, decide_true, decide_false, int_beq, int_bne, bne_iff_ne, beq_iff_eq, Int.natCast_inj, Bool.and_eq_true, decide_not, Decidable.not_not, boundO, exTo, Nat.zero_le, Nat.le_refl, Bool.or_true, beq_self_eq_true, Option.getD_some, Option.getD_none, List.drop_zero, Nat.sub_zero, and_self, or_true, true_or, or_self, false_or, or_false, and_false, false_and, Cp.isFull, isNil, moveV, Nat.add_zero, Nat.zero_add, Int.reduceLE, Int.reduceLT, Int.reduceEq, Int.reduceBEq, Int.reduceGT, Int.reduceGE, Nat.reduceLT, Nat.reduceLeDiff, e7, e0, e1, e4, h2, List.getElem?_cons_zero, hsl, elems, bytesIn_bv, getParts, hft, wj, h32, st0a (hs := h) rfl, List.length_cons, List.length_nil, last_get, take4, last_take]
      rw [hr]
  rw [Bool.not_eq_true] at h1
  by_cases h2 : digitB L[a].toNat = true
  · have hft : ∀ (m : Nat), fillParts Zc [(0, 1, V.int 2), (2, 1, V.int m)] = some (rowOf (2, [], m) 0) := fun _ => rfl
    simp only [WpC_skip, WpC_ret, WpC_exit, WpC_region, WpC_seqD, WpC_block, WpC_condD, thenC_normal, thenC_ret, thenC_exit, thenQ_normal, thenQ_ret, thenQ_exit, condQ_true, condQ_false, condQ_bool, opQ_some, opQ_none, guardQ_tt, guardQ_tf, guardQ_ft, guardQ_ff, guardQ_no, blockQ_normal, blockQ_ret, blockQ_exit, endP_ret, endP_normal, endI_ret, endI_normal, resQ_some, Frz_sci, Frz_slci, FrzL_nili, FrzL_consi, Frz_tupi, Frz_aggi, Frz_ifci, oneCell, WpO_keep1, offV_ptr, offV_nil, blkNe_ptr, blkNe_sc, blkNe_slc, blkNe_eptr, blkNe_agg, blkNe_hsl, AOp.opds, Nat.reduceAdd, WpO_opD, WpO_nil, WpO_callD, WpO_guardD, step, Opd.get, put_app, put_none, ne_eq, reduceCtorEq, not_false_eq_true, not_true_eq_false, implies_true, slcLen, Option.map_some, Option.map_none, Option.bind_some, Option.bind_none, bin, binInt, reduceIte, Nat.reduceEqDiff, List.getD_cons_zero, List.getD_cons_succ, IntKind.signed, indexV, asNat?, loadV, cutCells, unary, evRess, evRes1, oneOrTup, wrapV, target, getsO, List.nil_append, List.append_nil, List.cons_append, Bool.false_eq_true, Bool.true_eq_false, decide_eq_true_eq, Bool.not_eq_true', decide_eq_false_iff_not, Bool.not_true, Bool.not_false, List.take_length, and_true, true_and, Int.ofNat_lt, Int.ofNat_le, Int.natCast_nonneg, Int.toNat_natCast, ge_iff_le, gt_iff_lt, if_true, if_false, List.length_map, decide_true, decide_false, int_beq, int_bne, bne_iff_ne, beq_iff_eq, Int.natCast_inj, Bool.and_eq_true, decide_not, Decidable.not_not, boundO, sliceV, exTo, Nat.zero_le, Nat.le_refl, Bool.or_true, beq_self_eq_true, Option.getD_some, Option.getD_none, List.drop_zero, Nat.sub_zero, and_self, or_true, true_or, or_self, false_or, or_false, and_false, false_and, Cp.isFull, isNil, moveV, Nat.add_zero, Nat.zero_add, Int.reduceLE, Int.reduceLT, Int.reduceEq, Int.reduceBEq, Int.reduceGT, Int.reduceGE, Nat.reduceLT, Nat.reduceLeDiff, hga, List.getElem?_cons_zero, callD_ret (alpha_r _ _), callD_ret (num_r _ _), h1, h2]
    refine WpC_loopI (fun k en h' => ∃ j : Nat, k = l.length - j ∧ j ≤ l.length ∧ en 7 = V.int ((a + j : Nat) : Int) ∧ en 0 = .slc ex 1 (L.map bv) ∧ en 1 = V.int a ∧ en 4 = .ptr h.length 0 ∧ (l.take j).any (fun c => !digB c) = false ∧ h' = h ++ [.box 36 Zc]) l.length ⟨0, rfl, Nat.zero_le _, rfl, rfl, rfl, rfl, rfl, rfl⟩ ?_
    rintro k en h' ⟨j, rfl, hj, e7, e0, e1, e4, hno, rfl⟩
    have fin : (l.takeWhile digB).length = j → l.takeWhile digB = l.take j ∧ l.dropWhile digB = l.drop j ∧ refTok l a = ((2, [], if valL (l.take j) < 2 ^ 63 then valL (l.take j) else 0), a + j, decide (valL (l.take j) < 2 ^ 63) && farB (l.drop j)) := fun hlen => by
      have htk : l.takeWhile digB = l.take j := by
        have := congrArg (List.take (l.takeWhile digB).length) (List.takeWhile_append_dropWhile (p := digB) (l := l))
        rw [← hlen, ← this]
        exact List.take_left.symm
      have hdw : l.dropWhile digB = l.drop j := by rw [← hlen, drop_takeWhile]
      refine ⟨htk, hdw, ?_⟩
      rw [hcons] at htk hlen hdw ⊢
      simp only [refTok, h1, h2, if_true, if_false, Bool.false_eq_true]
      rw [hlen, htk, hdw]
    by_cases h3 : a + j < L.length
    · have h3' : j < l.length := by omega
      have hgj := hg j h3'
      by_cases h4 : digitB l[j].toNat = true
      · simp only [WpC_skip, WpC_ret, WpC_exit, WpC_region, WpC_seqD, WpC_block, WpC_condD, thenC_normal, thenC_ret, thenC_exit, thenQ_normal, thenQ_ret, thenQ_exit, condQ_true, condQ_false, condQ_bool, opQ_some, opQ_none, guardQ_tt, guardQ_tf, guardQ_ft, guardQ_ff, guardQ_no, blockQ_normal, blockQ_ret, blockQ_exit, endP_ret, endP_normal, endI_ret, endI_normal, resQ_some, Frz_sci, Frz_slci, FrzL_nili, FrzL_consi, Frz_tupi, Frz_aggi, Frz_ifci, oneCell, WpO_keep1, offV_ptr, offV_nil, blkNe_ptr, blkNe_sc, blkNe_slc, blkNe_eptr, blkNe_agg, blkNe_hsl, AOp.opds, Nat.reduceAdd, WpO_opD, WpO_nil, WpO_callD, WpO_guardD, step, Opd.get, put_app, put_none, ne_eq, reduceCtorEq, not_false_eq_true, not_true_eq_false, implies_true, slcLen, Option.map_some, Option.map_none, Option.bind_some, Option.bind_none, bin, binInt, reduceIte, Nat.reduceEqDiff, List.getD_cons_zero, List.getD_cons_succ, IntKind.signed, indexV, asNat?, loadV, cutCells, unary, evRess, evRes1, oneOrTup, wrapV, target, getsO, List.nil_append, List.append_nil, List.cons_append, Bool.false_eq_true, Bool.true_eq_false, decide_eq_true_eq, Bool.not_eq_true', decide_eq_false_iff_not, Bool.not_true, Bool.not_false, List.take_length, and_true, true_and, Int.ofNat_lt, Int.ofNat_le, Int.natCast_nonneg, Int.toNat_natCast, ge_iff_le, gt_iff_lt, if_true, if_false, List.length_map, decide_true, decide_false, int_beq, int_bne, bne_iff_ne, beq_iff_eq, Int.natCast_inj, Bool.and_eq_true, decide_not, Decidable.not_not, boundO, sliceV, exTo, Nat.zero_le, Nat.le_refl, Bool.or_true, beq_self_eq_true, Option.getD_some, Option.getD_none, List.drop_zero, Nat.sub_zero, and_self, or_true, true_or, or_self, false_or, or_false, and_false, false_and, Cp.isFull, isNil, moveV, Nat.add_zero, Nat.zero_add, Int.reduceLE, Int.reduceLT, Int.reduceEq, Int.reduceBEq, Int.reduceGT, Int.reduceGE, Nat.reduceLT, Nat.reduceLeDiff, e7, e0, e1, e4, h3, hgj, List.getElem?_cons_zero, callD_ret (num_r _ _), h4]
        exact ⟨l.length - (j + 1), by omega, j + 1, rfl, by omega, by rw [wrap_i64 (by omega) (by omega)]; rfl, any_snoc h3' hno h4⟩
      · rw [Bool.not_eq_true] at h4
        obtain ⟨htk, hdw, hr⟩ := fin (take_while_end hj hno fun _ => h4)
        have hdd : ∀ c ∈ l.take j, digitB c.toNat = true := fun x hx => by
          rw [← htk] at hx
          exact List.all_eq_true.1 List.all_takeWhile x hx
        have hsl := fun h => slice_mid h ex L a (a + j) (by omega) (by omega)
        rw [hlD, Nat.add_sub_cancel_left] at hsl
        have hfar : farB (l.drop j) = !letterB l[j].toNat := by rw [List.drop_eq_getElem_cons h3']; rfl
        have hne2 : ¬ a + j = L.length := by omega
        have hnr := fun base h => number_r (base := base) (l.take j) h hdd (by simp; omega)
        by_cases hv : valL (l.take j) < 2 ^ 63
        · simp only [hv, if_true, decide_true] at hnr
          simp only [WpC_skip, WpC_ret, WpC_exit, WpC_region, WpC_seqD, WpC_block, WpC_condD, thenC_normal, thenC_ret, thenC_exit, thenQ_normal, thenQ_ret, thenQ_exit, condQ_true, condQ_false, condQ_bool, opQ_some, opQ_none, guardQ_tt, guardQ_tf, guardQ_ft, guardQ_ff, guardQ_no, blockQ_normal, blockQ_ret, blockQ_exit, endP_ret, endP_normal, endI_ret, endI_normal, resQ_some, Frz_sci, Frz_slci, FrzL_nili, FrzL_consi, Frz_tupi, Frz_aggi, Frz_ifci, oneCell, WpO_keep1, offV_ptr, offV_nil, blkNe_ptr, blkNe_sc, blkNe_slc, blkNe_eptr, blkNe_agg, blkNe_hsl, AOp.opds, Nat.reduceAdd, WpO_opD, WpO_nil, WpO_callD, WpO_guardD, step, Opd.get, put_app, put_none, ne_eq, reduceCtorEq, not_false_eq_true, not_true_eq_false, implies_true, slcLen, Option.map_some, Option.map_none, Option.bind_some, Option.bind_none, bin, binInt, reduceIte, Nat.reduceEqDiff, List.getD_cons_zero, List.getD_cons_succ, IntKind.signed, indexV, asNat?, loadV, cutCells, unary, evRess, evRes1, oneOrTup, wrapV, target, getsO, List.nil_append, List.append_nil, List.cons_append, Bool.false_eq_true, Bool.true_eq_false, decide_eq_true_eq, Bool.not_eq_true', decide_eq_false_iff_not, Bool.not_true, Bool.not_false, List.take_length, and_true, true_and, Int.ofNat_lt, Int.ofNat_le, Int.natCast_nonneg, Int.toNat_natCast, ge_iff_le, gt_iff_lt, if_true, if_false, List.length_map, decide_true, decide_false, int_beq, int_bne, bne_iff_ne, beq_iff_eq, Int.natCast_inj, Bool.and_eq_true, decide_not, Decidable.not_not, boundO, exTo, Nat.zero_le, Nat.le_refl, Bool.or_true, beq_self_eq_true, Option.getD_some, Option.getD_none, List.drop_zero, Nat.sub_zero, and_self, or_true, true_or, or_self, false_or, or_false, and_false, false_and, Cp.isFull, isNil, moveV, Nat.add_zero, Nat.zero_add, Int.reduceLE, Int.reduceLT, Int.reduceEq, Int.reduceBEq, Int.reduceGT, Int.reduceGE, Nat.reduceLT, Nat.reduceLeDiff, e7, e0, e1, e4, h3, hgj, List.getElem?_cons_zero, List.getElem?_cons_succ, callD_ret (num_r _ _), h4, hsl, elems, bytesIn_bv, callD_ret (hnr _ _), getParts, hft, hne2, callD_ret (alpha_r _ _), st0a (hs := h) rfl, List.length_cons, List.length_nil, last_get, take4, last_take]
          rw [hr]
          simp only [hv, if_true, decide_true, Bool.true_and, hfar]
        · simp only [hv, if_false, decide_false] at hnr
          simp only [WpC_skip, WpC_ret, WpC_exit, WpC_region, WpC_seqD, WpC_block, WpC_condD, thenC_normal, thenC_ret, thenC_exit, thenQ_normal, thenQ_ret, thenQ_exit, condQ_true, condQ_false, condQ_bool, opQ_some, opQ_none, guardQ_tt, guardQ_tf, guardQ_ft, guardQ_ff, guardQ_no, blockQ_normal, blockQ_ret, blockQ_exit, endP_ret, endP_normal, endI_ret, endI_normal, resQ_some, Frz_sci, Frz_slci, FrzL_nili, FrzL_consi, Frz_tupi, Frz_aggi, Frz_ifci, oneCell, WpO_keep1, offV_ptr, offV_nil, blkNe_ptr, blkNe_sc, blkNe_slc, blkNe_eptr, blkNe_agg, blkNe_hsl, AOp.opds, Nat.reduceAdd, WpO_opD, WpO_nil, WpO_callD, WpO_guardD, step, Opd.get, put_app, put_none, ne_eq, reduceCtorEq, not_false_eq_true, not_true_eq_false, implies_true, slcLen, Option.map_some, Option.map_none, Option.bind_some, Option.bind_none, bin, binInt, reduceIte, Nat.reduceEqDiff, List.getD_cons_zero, List.getD_cons_succ, IntKind.signed, indexV, asNat?, loadV, cutCells, unary, evRess, evRes1, oneOrTup, wrapV, target, getsO, List.nil_append, List.append_nil, List.cons_append, Bool.false_eq_true, Bool.true_eq_false, decide_eq_true_eq, Bool.not_eq_true', decide_eq_false_iff_not, Bool.not_true, Bool.not_false, List.take_length, and_true, true_and, Int.ofNat_lt, Int.ofNat_le, Int.natCast_nonneg, Int.toNat_natCast, ge_iff_le, gt_iff_lt, if_true, if_false, List.length_map, decide_true, decide_false, int_beq, int_bne, bne_iff_ne, beq_iff_eq, Int.natCast_inj, Bool.and_eq_true, decide_not, Decidable.not_not, boundO, exTo, Nat.zero_le, Nat.le_refl, Bool.or_true, beq_self_eq_true, Option.getD_some, Option.getD_none, List.drop_zero, Nat.sub_zero, and_self, or_true, true_or, or_self, false_or, or_false, and_false, false_and, Cp.isFull, isNil, moveV, Nat.add_zero, Nat.zero_add, Int.reduceLE, Int.reduceLT, Int.reduceEq, Int.reduceBEq, Int.reduceGT, Int.reduceGE, Nat.reduceLT, Nat.reduceLeDiff, e7, e0, e1, e4, h3, hgj, List.getElem?_cons_zero, List.getElem?_cons_succ, callD_ret (num_r _ _), h4, hsl, elems, bytesIn_bv, callD_ret (hnr _ _), getParts, hft, hne2, callD_ret (alpha_r _ _), st0a (hs := h) rfl, List.length_cons, List.length_nil, last_get, take4, last_take]
          rw [hr]
          simp only [hv, if_false, decide_false, Bool.false_and]
    · obtain ⟨htk, hdw, hr⟩ := fin (take_while_end hj hno fun hh => absurd hh (by omega))
      have hdd : ∀ c ∈ l.take j, digitB c.toNat = true := fun x hx => by
        rw [← htk] at hx
        exact List.all_eq_true.1 List.all_takeWhile x hx
      have hsl := fun h => slice_mid h ex L a (a + j) (by omega) (by omega)
      rw [hlD, Nat.add_sub_cancel_left] at hsl
      have hfar : farB (l.drop j) = true := by rw [List.drop_of_length_le (by omega)]; rfl
      have hne2 : (a + j = L.length) = True := by simp only [eq_iff_iff, iff_true]; omega
      have hnr := fun base h => number_r (base := base) (l.take j) h hdd (by simp; omega)
      by_cases hv : valL (l.take j) < 2 ^ 63
      · simp only [hv, if_true, decide_true] at hnr
        simp only [WpC_skip, WpC_ret, WpC_exit, WpC_region, WpC_seqD, WpC_block, WpC_condD, thenC_normal, thenC_ret, thenC_exit, thenQ_normal, thenQ_ret, thenQ_exit, condQ_true, condQ_false, condQ_bool, opQ_some, opQ_none, guardQ_tt, guardQ_tf, guardQ_ft, guardQ_ff, guardQ_no, blockQ_normal, blockQ_ret, blockQ_exit, endP_ret, endP_normal, endI_ret, endI_normal, resQ_some, Frz_sci, Frz_slci, FrzL_nili, FrzL_consi, Frz_tupi, Frz_aggi, Frz_ifci, oneCell, WpO_keep1, offV_ptr, offV_nil, blkNe_ptr, blkNe_sc, blkNe_slc, blkNe_eptr, blkNe_agg, blkNe_hsl, AOp.opds, Nat.reduceAdd, WpO_opD, WpO_nil, WpO_callD, WpO_guardD, step, Opd.get, put_app, put_none, ne_eq, reduceCtorEq, not_false_eq_true, not_true_eq_false, implies_true, slcLen, Option.map_some, Option.map_none, Option.bind_some, Option.bind_none, bin, binInt, reduceIte, Nat.reduceEqDiff, List.getD_cons_zero, List.getD_cons_succ, IntKind.signed, indexV, asNat?, loadV, cutCells, unary, evRess, evRes1, oneOrTup, wrapV, target, getsO, List.nil_append, List.append_nil, List.cons_append, Bool.false_eq_true, Bool.true_eq_false, decide_eq_true_eq, Bool.not_eq_true', decide_eq_false_iff_not, Bool.not_true, Bool.not_false, List.take_length, and_true, true_and, Int.ofNat_lt, Int.ofNat_le, Int.natCast_nonneg, Int.toNat_natCast, ge_iff_le, gt_iff_lt, if_true, if_false, List.length_map, decide_true, decide_false, int_beq, int_bne, bne_iff_ne, beq_iff_eq, Int.natCast_inj, Bool.and_eq_true, decide_not, Decidable.not_not, boundO, exTo, Nat.zero_le, Nat.le_refl, Bool.or_true, beq_self_eq_true, Option.getD_some, Option.getD_none, List.drop_zero, Nat.sub_zero, and_self, or_true, true_or, or_self, false_or, or_false, and_false, false_and, Cp.isFull, isNil, moveV, Nat.add_zero, Nat.zero_add, Int.reduceLE, Int.reduceLT, Int.reduceEq, Int.reduceBEq, Int.reduceGT, Int.reduceGE, Nat.reduceLT, Nat.reduceLeDiff, e7, e0, e1, e4, h3, List.getElem?_cons_zero, List.getElem?_cons_succ, hsl, elems, bytesIn_bv, callD_ret (hnr _ _), getParts, hft, hne2, st0a (hs := h) rfl, List.length_cons, List.length_nil, last_get, take4, last_take]
        rw [hr]
        simp only [hv, if_true, decide_true, Bool.true_and, hfar]
      · simp only [hv, if_false, decide_false] at hnr
        simp only [WpC_skip, WpC_ret, WpC_exit, WpC_region, WpC_seqD, WpC_block, WpC_condD, thenC_normal, thenC_ret, thenC_exit, thenQ_normal, thenQ_ret, thenQ_exit, condQ_true, condQ_false, condQ_bool, opQ_some, opQ_none, guardQ_tt, guardQ_tf, guardQ_ft, guardQ_ff, guardQ_no, blockQ_normal, blockQ_ret, blockQ_exit, endP_ret, endP_normal, endI_ret, endI_normal, resQ_some, Frz_sci, Frz_slci, FrzL_nili, FrzL_consi, Frz_tupi, Frz_aggi, Frz_ifci, oneCell, WpO_keep1, offV_ptr, offV_nil, blkNe_ptr, blkNe_sc, blkNe_slc, blkNe_eptr, blkNe_agg, blkNe_hsl, AOp.opds, Nat.reduceAdd, WpO_opD, WpO_nil, WpO_callD, WpO_guardD, step, Opd.get, put_app, put_none, ne_eq, reduceCtorEq, not_false_eq_true, not_true_eq_false, implies_true, slcLen, Option.map_some, Option.map_none, Option.bind_some, Option.bind_none, bin, binInt, reduceIte, Nat.reduceEqDiff, List.getD_cons_zero, List.getD_cons_succ, IntKind.signed, indexV, asNat?, loadV, cutCells, unary, evRess, evRes1, oneOrTup, wrapV, target, getsO, List.nil_append, List.append_nil, List.cons_append, Bool.false_eq_true, Bool.true_eq_false, decide_eq_true_eq, Bool.not_eq_true', decide_eq_false_iff_not, Bool.not_true, Bool.not_false, List.take_length, and_true, true_and, Int.ofNat_lt, Int.ofNat_le, Int.natCast_nonneg, Int.toNat_natCast, ge_iff_le, gt_iff_lt, if_true, if_false, List.length_map, decide_true, decide_false, int_beq, int_bne, bne_iff_ne, beq_iff_eq, Int.natCast_inj, Bool.and_eq_true, decide_not, Decidable.not_not, boundO, exTo, Nat.zero_le, Nat.le_refl, Bool.or_true, beq_self_eq_true, Option.getD_some, Option.getD_none, List.drop_zero, Nat.sub_zero, and_self, or_true, true_or, or_self, false_or, or_false, and_false, false_and, Cp.isFull, isNil, moveV, Nat.add_zero, Nat.zero_add, Int.reduceLE, Int.reduceLT, Int.reduceEq, Int.reduceBEq, Int.reduceGT, Int.reduceGE, Nat.reduceLT, Nat.reduceLeDiff, e7, e0, e1, e4, h3, List.getElem?_cons_zero, List.getElem?_cons_succ, hsl, elems, bytesIn_bv, callD_ret (hnr _ _), getParts, hft, hne2, st0a (hs := h) rfl, List.length_cons, List.length_nil, last_get, take4, last_take]
        rw [hr]
        simp only [hv, if_false, decide_false, Bool.false_and]
  rw [Bool.not_eq_true] at h2
  simp only [WpC_skip, WpC_ret, WpC_exit, WpC_region, WpC_seqD, WpC_block, WpC_condD, thenC_normal, thenC_ret, thenC_exit, thenQ_normal, thenQ_ret, thenQ_exit, condQ_true, condQ_false, condQ_bool, opQ_some, opQ_none, guardQ_tt, guardQ_tf, guardQ_ft, guardQ_ff, guardQ_no, blockQ_normal, blockQ_ret, blockQ_exit, endP_ret, endP_normal, endI_ret, endI_normal, resQ_some, Frz_sci, Frz_slci, FrzL_nili, FrzL_consi, Frz_tupi, Frz_aggi, Frz_ifci, oneCell, WpO_keep1, offV_ptr, offV_nil, blkNe_ptr, blkNe_sc, blkNe_slc, blkNe_eptr, blkNe_agg, blkNe_hsl, AOp.opds, Nat.reduceAdd, WpO_opD, WpO_nil, WpO_callD, WpO_guardD, step, Opd.get, put_app, put_none, ne_eq, reduceCtorEq, not_false_eq_true, not_true_eq_false, implies_true, slcLen, Option.map_some, Option.map_none, Option.bind_some, Option.bind_none, bin, binInt, reduceIte, Nat.reduceEqDiff, List.getD_cons_zero, List.getD_cons_succ, IntKind.signed, indexV, asNat?, loadV, cutCells, unary, evRess, evRes1, oneOrTup, wrapV, target, getsO, List.nil_append, List.append_nil, List.cons_append, Bool.false_eq_true, Bool.true_eq_false, decide_eq_true_eq, Bool.not_eq_true', decide_eq_false_iff_not, Bool.not_true, Bool.not_false, List.take_length, and_true, true_and, Int.ofNat_lt, Int.ofNat_le, Int.natCast_nonneg, Int.toNat_natCast, ge_iff_le, gt_iff_lt, if_true, if_false, List.length_map, decide_true, decide_false, int_beq, int_bne, bne_iff_ne, beq_iff_eq, Int.natCast_inj, Bool.and_eq_true, decide_not, Decidable.not_not, boundO, sliceV, exTo, Nat.zero_le, Nat.le_refl, Bool.or_true, beq_self_eq_true, Option.getD_some, Option.getD_none, List.drop_zero, Nat.sub_zero, and_self, or_true, true_or, or_self, false_or, or_false, and_false, false_and, Cp.isFull, isNil, moveV, Nat.add_zero, Nat.zero_add, Int.reduceLE, Int.reduceLT, Int.reduceEq, Int.reduceBEq, Int.reduceGT, Int.reduceGE, Nat.reduceLT, Nat.reduceLeDiff, hga, List.getElem?_cons_zero, callD_ret (alpha_r _ _), callD_ret (num_r _ _), h1, h2, callD_ret (signs_r _)]
  have hsl27 : signsL.length = 27 := rfl
  refine WpC_loopI (fun k en h' => ∃ i : Nat, k = 27 - i ∧ i ≤ 27 ∧ en 11 = V.int i ∧ en 10 = .slc .lit 1 (signsL.map fun m => sv (bs m)) ∧ en 0 = .slc ex 1 (L.map bv) ∧ en 1 = V.int a ∧ en 4 = .ptr h.length 0 ∧ (signsL.take i).find? (preB l) = none ∧ h' = h ++ [.box 36 Zc]) 27 ⟨0, rfl, Nat.zero_le _, rfl, rfl, rfl, rfl, rfl, rfl, rfl⟩ ?_
  rintro k en h' ⟨i, rfl, hi, e11, e10, e0, e1, e4, hno, rfl⟩
  have hne : ∀ x : Nat, (h.length + 1 + x != h.length) = true := fun x => by simp; omega
  by_cases h3 : i < 27
  · have h3s : i < signsL.length := by omega
    have hgs : (signsL.map fun m => sv (bs m))[i]? = some (sv (bs signsL[i])) := by rw [List.getElem?_map, List.getElem?_eq_getElem h3s]; rfl
    have hm2 := signs_le _ (List.getElem_mem h3s)
    have wa : IntKind.wrap .i64 ((a : Int) + ((signsL[i].length : Nat) : Int)) = ((a + signsL[i].length : Nat) : Int) := by rw [wrap_i64 (by omega) (by omega)]; omega
    have hf := find_take (preB l) signsL i h3s hno
    by_cases h4 : a + signsL[i].length ≤ L.length
    · have hsl := fun h => slice_mid h ex L a (a + signsL[i].length) (by omega) h4
      rw [hlD, Nat.add_sub_cancel_left] at hsl
      have hpre : preB l signsL[i] = (l.take signsL[i].length == signsL[i]) := by
        unfold preB
        rw [decide_eq_true (show signsL[i].length ≤ l.length by omega), Bool.true_and]
      cases hp : (l.take signsL[i].length == signsL[i])
      · simp only [WpC_skip, WpC_ret, WpC_exit, WpC_region, WpC_seqD, WpC_block, WpC_condD, thenC_normal, thenC_ret, thenC_exit, thenQ_normal, thenQ_ret, thenQ_exit, condQ_true, condQ_false, condQ_bool, opQ_some, opQ_none, guardQ_tt, guardQ_tf, guardQ_ft, guardQ_ff, guardQ_no, blockQ_normal, blockQ_ret, blockQ_exit, endP_ret, endP_normal, endI_ret, endI_normal, resQ_some, Frz_sci, Frz_slci, FrzL_nili, FrzL_consi, Frz_tupi, Frz_aggi, Frz_ifci, oneCell, WpO_keep1, offV_ptr, offV_nil, blkNe_ptr, blkNe_sc, blkNe_slc, blkNe_eptr, blkNe_agg, blkNe_hsl, AOp.opds, Nat.reduceAdd, WpO_opD, WpO_nil, WpO_callD, WpO_guardD, step, Opd.get, put_app, put_none, ne_eq, reduceCtorEq, not_false_eq_true, not_true_eq_false, implies_true, slcLen, Option.map_some, Option.map_none, Option.bind_some, Option.bind_none, bin, binInt, reduceIte, Nat.reduceEqDiff, List.getD_cons_zero, List.getD_cons_succ, IntKind.signed, indexV, asNat?, loadV, cutCells, unary, evRess, evRes1, oneOrTup, wrapV, target, getsO, List.nil_append, List.append_nil, List.cons_append, Bool.false_eq_true, Bool.true_eq_false, decide_eq_true_eq, Bool.not_eq_true', decide_eq_false_iff_not, Bool.not_true, Bool.not_false, List.take_length, and_true, true_and, Int.ofNat_lt, Int.ofNat_le, Int.natCast_nonneg, Int.toNat_natCast, ge_iff_le, gt_iff_lt, if_true, if_false, List.length_map, decide_true, decide_false, int_beq, int_bne, bne_iff_ne, beq_iff_eq, Int.natCast_inj, Bool.and_eq_true, decide_not, Decidable.not_not, boundO, exTo, Nat.zero_le, Nat.le_refl, Bool.or_true, beq_self_eq_true, Option.getD_some, Option.getD_none, List.drop_zero, Nat.sub_zero, and_self, or_true, true_or, or_self, false_or, or_false, and_false, false_and, Cp.isFull, isNil, moveV, Nat.add_zero, Nat.zero_add, Int.reduceLE, Int.reduceLT, Int.reduceEq, Int.reduceBEq, Int.reduceGT, Int.reduceGE, Nat.reduceLT, Nat.reduceLeDiff, e11, e10, e0, e1, e4, h3, hsl27, hgs, List.getElem?_cons_zero, bs_size, wa, h4, hsl, elems, bytesIn_bv, binStr, bs_list, hp]
        exact ⟨27 - (i + 1), by omega, i + 1, rfl, by omega, by rw [wrap_i64 (by omega) (by omega)]; rfl, hf.2 (by rw [hpre, hp])⟩
      · have hft : fillParts Zc [(0, 1, V.int 3), (1, 1, .sc (.string (bs signsL[i])))] = some (rowOf (3, signsL[i], 0) 0) := rfl
        simp only [WpC_skip, WpC_ret, WpC_exit, WpC_region, WpC_seqD, WpC_block, WpC_condD, thenC_normal, thenC_ret, thenC_exit, thenQ_normal, thenQ_ret, thenQ_exit, condQ_true, condQ_false, condQ_bool, opQ_some, opQ_none, guardQ_tt, guardQ_tf, guardQ_ft, guardQ_ff, guardQ_no, blockQ_normal, blockQ_ret, blockQ_exit, endP_ret, endP_normal, endI_ret, endI_normal, resQ_some, Frz_sci, Frz_slci, FrzL_nili, FrzL_consi, Frz_tupi, Frz_aggi, Frz_ifci, oneCell, WpO_keep1, offV_ptr, offV_nil, blkNe_ptr, blkNe_sc, blkNe_slc, blkNe_eptr, blkNe_agg, blkNe_hsl, AOp.opds, Nat.reduceAdd, WpO_opD, WpO_nil, WpO_callD, WpO_guardD, step, Opd.get, put_app, put_none, ne_eq, reduceCtorEq, not_false_eq_true, not_true_eq_false, implies_true, slcLen, Option.map_some, Option.map_none, Option.bind_some, Option.bind_none, bin, binInt, reduceIte, Nat.reduceEqDiff, List.getD_cons_zero, List.getD_cons_succ, IntKind.signed, indexV, asNat?, loadV, cutCells, unary, evRess, evRes1, oneOrTup, wrapV, target, getsO, List.nil_append, List.append_nil, List.cons_append, Bool.false_eq_true, Bool.true_eq_false, decide_eq_true_eq, Bool.not_eq_true', decide_eq_false_iff_not, Bool.not_true, Bool.not_false, List.take_length, and_true, true_and, Int.ofNat_lt, Int.ofNat_le, Int.natCast_nonneg, Int.toNat_natCast, ge_iff_le, gt_iff_lt, if_true, if_false, List.length_map, decide_true, decide_false, int_beq, int_bne, bne_iff_ne, beq_iff_eq, Int.natCast_inj, Bool.and_eq_true, decide_not, Decidable.not_not, boundO, exTo, Nat.zero_le, Nat.le_refl, Bool.or_true, beq_self_eq_true, Option.getD_some, Option.getD_none, List.drop_zero, Nat.sub_zero, and_self, or_true, true_or, or_self, false_or, or_false, and_false, false_and, Cp.isFull, isNil, moveV, Nat.add_zero, Nat.zero_add, Int.reduceLE, Int.reduceLT, Int.reduceEq, Int.reduceBEq, Int.reduceGT, Int.reduceGE, Nat.reduceLT, Nat.reduceLeDiff, e11, e10, e0, e1, e4, h3, hsl27, hgs, List.getElem?_cons_zero, bs_size, wa, h4, hsl, elems, bytesIn_bv, binStr, bs_list, hp, getParts, hft, st0a (hs := h) rfl, List.length_cons, List.length_nil, last_get, take4, last_take]
        have hs : signF (L[a] :: L.drop (a + 1)) = some signsL[i] := by
          rw [← hcons]
          exact hf.1 (by rw [hpre, hp])
        have hr : refTok l a = ((3, signsL[i], 0), a + signsL[i].length, true) := by
          rw [hcons]
          simp only [refTok, h1, h2, if_false, Bool.false_eq_true, hs]
        rw [hr]
    · have hpre : preB l signsL[i] = false := by
        unfold preB
        rw [decide_eq_false (show ¬ signsL[i].length ≤ l.length by omega), Bool.false_and]
      simp only [WpC_skip, WpC_ret, WpC_exit, WpC_region, WpC_seqD, WpC_block, WpC_condD, thenC_normal, thenC_ret, thenC_exit, thenQ_normal, thenQ_ret, thenQ_exit, condQ_true, condQ_false, condQ_bool, opQ_some, opQ_none, guardQ_tt, guardQ_tf, guardQ_ft, guardQ_ff, guardQ_no, blockQ_normal, blockQ_ret, blockQ_exit, endP_ret, endP_normal, endI_ret, endI_normal, resQ_some, Frz_sci, Frz_slci, FrzL_nili, FrzL_consi, Frz_tupi, Frz_aggi, Frz_ifci, oneCell, WpO_keep1, offV_ptr, offV_nil, blkNe_ptr, blkNe_sc, blkNe_slc, blkNe_eptr, blkNe_agg, blkNe_hsl, AOp.opds, Nat.reduceAdd, WpO_opD, WpO_nil, WpO_callD, WpO_guardD, step, Opd.get, put_app, put_none, ne_eq, reduceCtorEq, not_false_eq_true, not_true_eq_false, implies_true, slcLen, Option.map_some, Option.map_none, Option.bind_some, Option.bind_none, bin, binInt, reduceIte, Nat.reduceEqDiff, List.getD_cons_zero, List.getD_cons_succ, IntKind.signed, indexV, asNat?, loadV, cutCells, unary, evRess, evRes1, oneOrTup, wrapV, target, getsO, List.nil_append, List.append_nil, List.cons_append, Bool.false_eq_true, Bool.true_eq_false, decide_eq_true_eq, Bool.not_eq_true', decide_eq_false_iff_not, Bool.not_true, Bool.not_false, List.take_length, and_true, true_and, Int.ofNat_lt, Int.ofNat_le, Int.natCast_nonneg, Int.toNat_natCast, ge_iff_le, gt_iff_lt, if_true, if_false, List.length_map, decide_true, decide_false, int_beq, int_bne, bne_iff_ne, beq_iff_eq, Int.natCast_inj, Bool.and_eq_true, decide_not, Decidable.not_not, boundO, sliceV, exTo, Nat.zero_le, Nat.le_refl, Bool.or_true, beq_self_eq_true, Option.getD_some, Option.getD_none, List.drop_zero, Nat.sub_zero, and_self, or_true, true_or, or_self, false_or, or_false, and_false, false_and, Cp.isFull, isNil, moveV, Nat.add_zero, Nat.zero_add, Int.reduceLE, Int.reduceLT, Int.reduceEq, Int.reduceBEq, Int.reduceGT, Int.reduceGE, Nat.reduceLT, Nat.reduceLeDiff, e11, e10, e0, e1, e4, h3, hsl27, hgs, List.getElem?_cons_zero, bs_size, wa, h4]
      exact ⟨27 - (i + 1), by omega, i + 1, rfl, by omega, by rw [wrap_i64 (by omega) (by omega)]; rfl, hf.2 hpre⟩
  · have hft : fillParts Zc [] = some (rowOf (0, [], 0) 0) := rfl
    simp only [WpC_skip, WpC_ret, WpC_exit, WpC_region, WpC_seqD, WpC_block, WpC_condD, thenC_normal, thenC_ret, thenC_exit, thenQ_normal, thenQ_ret, thenQ_exit, condQ_true, condQ_false, condQ_bool, opQ_some, opQ_none, guardQ_tt, guardQ_tf, guardQ_ft, guardQ_ff, guardQ_no, blockQ_normal, blockQ_ret, blockQ_exit, endP_ret, endP_normal, endI_ret, endI_normal, resQ_some, Frz_sci, Frz_slci, FrzL_nili, FrzL_consi, Frz_tupi, Frz_aggi, Frz_ifci, oneCell, WpO_keep1, offV_ptr, offV_nil, blkNe_ptr, blkNe_sc, blkNe_slc, blkNe_eptr, blkNe_agg, blkNe_hsl, AOp.opds, Nat.reduceAdd, WpO_opD, WpO_nil, WpO_callD, WpO_guardD, step, Opd.get, put_app, put_none, ne_eq, reduceCtorEq, not_false_eq_true, not_true_eq_false, implies_true, slcLen, Option.map_some, Option.map_none, Option.bind_some, Option.bind_none, bin, binInt, reduceIte, Nat.reduceEqDiff, List.getD_cons_zero, List.getD_cons_succ, IntKind.signed, indexV, asNat?, loadV, cutCells, unary, evRess, evRes1, oneOrTup, wrapV, target, getsO, List.nil_append, List.append_nil, List.cons_append, Bool.false_eq_true, Bool.true_eq_false, decide_eq_true_eq, Bool.not_eq_true', decide_eq_false_iff_not, Bool.not_true, Bool.not_false, List.take_length, and_true, true_and, Int.ofNat_lt, Int.ofNat_le, Int.natCast_nonneg, Int.toNat_natCast, ge_iff_le, gt_iff_lt, if_true, if_false, List.length_map, decide_true, decide_false, int_beq, int_bne, bne_iff_ne, beq_iff_eq, Int.natCast_inj, Bool.and_eq_true, decide_not, Decidable.not_not, boundO, sliceV, exTo, Nat.zero_le, Nat.le_refl, Bool.or_true, beq_self_eq_true, Option.getD_some, Option.getD_none, List.drop_zero, Nat.sub_zero, and_self, or_true, true_or, or_self, false_or, or_false, and_false, false_and, Cp.isFull, isNil, moveV, Nat.add_zero, Nat.zero_add, Int.reduceLE, Int.reduceLT, Int.reduceEq, Int.reduceBEq, Int.reduceGT, Int.reduceGE, Nat.reduceLT, Nat.reduceLeDiff, e11, e10, e0, e1, e4, h3, hsl27, getParts, hft, st0a (hs := h) rfl, List.length_cons, List.length_nil, last_get, take4, last_take]
    have hall : signsL.take i = signsL := List.take_of_length_le (by omega)
    rw [hall] at hno
    have hs : signF (L[a] :: L.drop (a + 1)) = none := by
      rw [← hcons]
      exact hno
    have hr : refTok l a = ((0, [], 0), a, false) := by
      rw [hcons]
      simp only [refTok, h1, h2, if_false, Bool.false_eq_true, hs]
    rw [hr]
end Go.Am
end
section
/- Am: the reference's Scan, and Same. -/
set_option linter.unusedSimpArgs false
namespace Go.Am

theorem scanA_skip_nl {cm : Bool} {c : UInt8} {r : List UInt8} {n : Nat} (h : c.toNat = 10) : skipC cm (c :: r) n = skipC false r (n + 1) := by simp only [skipC, h, if_true]
theorem skip_blank {cm : Bool} {c : UInt8} {r : List UInt8} {n : Nat} (h : ¬ c.toNat = 10) (hb : cm = true ∨ c.toNat = 32 ∨ c.toNat = 9 ∨ c.toNat = 13) : skipC cm (c :: r) n = skipC cm r n := by simp only [skipC, h, if_false, hb, if_true]
theorem skip_hash {c : UInt8} {r : List UInt8} {n : Nat} (h : c.toNat = 35) : skipC false (c :: r) n = skipC true r n := by
  have h10 : ¬ c.toNat = 10 := by omega
  have hb : ¬ (false = true ∨ c.toNat = 32 ∨ c.toNat = 9 ∨ c.toNat = 13) := by simp; omega
  rw [skipC, if_neg h10, if_neg hb, if_pos h]
theorem skip_none {c : UInt8} {r : List UInt8} {n : Nat} (h10 : ¬ c.toNat = 10) (h32 : ¬ c.toNat = 32) (h9 : ¬ c.toNat = 9) (h13 : ¬ c.toNat = 13) (h35 : ¬ c.toNat = 35) : skipC false (c :: r) n = (c :: r, n) := by
  have hb : ¬ (false = true ∨ c.toNat = 32 ∨ c.toNat = 9 ∨ c.toNat = 13) := by simp; omega
  rw [skipC, if_neg h10, if_neg hb, if_neg h35]

theorem refTok_end (l : List UInt8) (a : Nat) : (refTok l a).2.1 ≤ a + l.length := by
  cases l with
  | nil => exact Nat.le_refl _
  | cons c r =>
    have h1 := (List.takeWhile_sublist (l := c :: r) eitherB).length_le
    have h2 := (List.takeWhile_sublist (l := c :: r) digB).length_le
    simp only [refTok]
    split
    · exact Nat.add_le_add_left h1 a
    · split
      · exact Nat.add_le_add_left h2 a
      · split
        · rename_i m hm
          have hp := List.find?_some hm
          unfold preB at hp
          simp only [Bool.and_eq_true, decide_eq_true_eq] at hp
          exact Nat.add_le_add_left hp.1 a
        · exact Nat.le_add_right _ _

/-- Scanned from some state on. -/
def scanB (cm : Bool) (l : List UInt8) (n : Nat) (ts : List (Tk × Nat)) : Except Nat (List (Tk × Nat)) := scanA (skipC cm l n).1 (skipC cm l n).2 ts

theorem refScan_r {base : Nat} (ex : Cp) (L : List UInt8) (h : Heap) : WpF S0 base k_spinnakerref22_Scan [.slc ex 1 (L.map bv)] h fun v h' => v = scanV L ∧ h' = h := by
  refine WpF_pure (A := f_spinnakerref22_Scan) rfl rfl rfl rfl ?_
  simp only [f_spinnakerref22_Scan]
  by_cases hbig : 16384 < L.length
  · have hbig' : (16384 : Int) < L.length := by omega
    have hv : scanV L = .tup [nilV, V.int 0, V.int 3] := if_pos hbig
    rw [hv]
    simp only [WpC_skip, WpC_ret, WpC_exit, WpC_region, WpC_seqD, WpC_block, WpC_condD, thenC_normal, thenC_ret, thenC_exit, thenQ_normal, thenQ_ret, thenQ_exit, condQ_true, condQ_false, condQ_bool, opQ_some, opQ_none, guardQ_tt, guardQ_tf, guardQ_ft, guardQ_ff, guardQ_no, blockQ_normal, blockQ_ret, blockQ_exit, endP_ret, endP_normal, endI_ret, endI_normal, resQ_some, Frz_sci, Frz_slci, FrzL_nili, FrzL_consi, Frz_tupi, Frz_aggi, Frz_ifci, oneCell, WpO_keep1, offV_ptr, offV_nil, blkNe_ptr, blkNe_sc, blkNe_slc, blkNe_eptr, blkNe_agg, blkNe_hsl, AOp.opds, Nat.reduceAdd, WpO_opD, WpO_nil, WpO_callD, WpO_guardD, step, Opd.get, put_app, put_none, ne_eq, reduceCtorEq, not_false_eq_true, not_true_eq_false, implies_true, slcLen, Option.map_some, Option.map_none, Option.bind_some, Option.bind_none, bin, binInt, reduceIte, Nat.reduceEqDiff, List.getD_cons_zero, List.getD_cons_succ, IntKind.signed, indexV, asNat?, loadV, cutCells, unary, evRess, evRes1, oneOrTup, wrapV, target, getsO, List.nil_append, List.append_nil, List.cons_append, Bool.false_eq_true, Bool.true_eq_false, decide_eq_true_eq, Bool.not_eq_true', decide_eq_false_iff_not, Bool.not_true, Bool.not_false, List.take_length, and_true, true_and, Int.ofNat_lt, Int.ofNat_le, Int.natCast_nonneg, Int.toNat_natCast, ge_iff_le, gt_iff_lt, if_true, if_false, List.length_map, decide_true, decide_false, int_beq, int_bne, bne_iff_ne, beq_iff_eq, Int.natCast_inj, Bool.and_eq_true, decide_not, Decidable.not_not, boundO, sliceV, exTo, Nat.zero_le, Nat.le_refl, Bool.or_true, beq_self_eq_true, Option.getD_some, Option.getD_none, List.drop_zero, Nat.sub_zero, and_self, or_true, true_or, or_self, false_or, or_false, and_false, false_and, Cp.isFull, isNil, moveV, Nat.add_zero, Nat.zero_add, Int.reduceLE, Int.reduceLT, Int.reduceEq, Int.reduceBEq, Int.reduceGT, Int.reduceGE, Nat.reduceLT, Nat.reduceLeDiff, hbig']
  · have hbig' : ¬ (16384 : Int) < L.length := by omega
    have hv : scanV L = (match scanB false L 1 [] with | .ok ts => .tup [outV ts, V.int 0, V.int 0] | .error n => .tup [nilV, V.int n, V.int 20]) := if_neg hbig
    rw [hv]
    simp only [WpC_skip, WpC_ret, WpC_exit, WpC_region, WpC_seqD, WpC_block, WpC_condD, thenC_normal, thenC_ret, thenC_exit, thenQ_normal, thenQ_ret, thenQ_exit, condQ_true, condQ_false, condQ_bool, opQ_some, opQ_none, guardQ_tt, guardQ_tf, guardQ_ft, guardQ_ff, guardQ_no, blockQ_normal, blockQ_ret, blockQ_exit, endP_ret, endP_normal, endI_ret, endI_normal, resQ_some, Frz_sci, Frz_slci, FrzL_nili, FrzL_consi, Frz_tupi, Frz_aggi, Frz_ifci, oneCell, WpO_keep1, offV_ptr, offV_nil, blkNe_ptr, blkNe_sc, blkNe_slc, blkNe_eptr, blkNe_agg, blkNe_hsl, AOp.opds, Nat.reduceAdd, WpO_opD, WpO_nil, WpO_callD, WpO_guardD, step, Opd.get, put_app, put_none, ne_eq, reduceCtorEq, not_false_eq_true, not_true_eq_false, implies_true, slcLen, Option.map_some, Option.map_none, Option.bind_some, Option.bind_none, bin, binInt, reduceIte, Nat.reduceEqDiff, List.getD_cons_zero, List.getD_cons_succ, IntKind.signed, indexV, asNat?, loadV, cutCells, unary, evRess, evRes1, oneOrTup, wrapV, target, getsO, List.nil_append, List.append_nil, List.cons_append, Bool.false_eq_true, Bool.true_eq_false, decide_eq_true_eq, Bool.not_eq_true', decide_eq_false_iff_not, Bool.not_true, Bool.not_false, List.take_length, and_true, true_and, Int.ofNat_lt, Int.ofNat_le, Int.natCast_nonneg, Int.toNat_natCast, ge_iff_le, gt_iff_lt, if_true, if_false, List.length_map, decide_true, decide_false, int_beq, int_bne, bne_iff_ne, beq_iff_eq, Int.natCast_inj, Bool.and_eq_true, decide_not, Decidable.not_not, boundO, sliceV, exTo, Nat.zero_le, Nat.le_refl, Bool.or_true, beq_self_eq_true, Option.getD_some, Option.getD_none, List.drop_zero, Nat.sub_zero, and_self, or_true, true_or, or_self, false_or, or_false, and_false, false_and, Cp.isFull, isNil, moveV, Nat.add_zero, Nat.zero_add, Int.reduceLE, Int.reduceLT, Int.reduceEq, Int.reduceBEq, Int.reduceGT, Int.reduceGE, Nat.reduceLT, Nat.reduceLeDiff, hbig']
    refine WpC_loopI (fun k en h' => ∃ (a n : Nat) (cm : Bool) (ts : List (Tk × Nat)), k = L.length - a ∧ a ≤ L.length ∧ en 7 = V.int a ∧ en 6 = V.int n ∧ en 8 = .bool cm ∧ en 0 = .slc ex 1 (L.map bv) ∧ IsOut h' h.length (en 5) ts ∧ (∀ i, i < h.length → h'[i]? = h[i]?) ∧ h.length ≤ h'.length ∧ scanB cm (L.drop a) n ts = scanB false L 1 [] ∧ n ≤ a + 1 ∧ ts.length ≤ a) L.length ⟨0, 1, false, [], rfl, Nat.zero_le _, rfl, rfl, rfl, rfl, .inl ⟨rfl, rfl⟩, fun _ _ => rfl, Nat.le_refl _, rfl, Nat.le_refl _, Nat.zero_le _⟩ ?_
    rintro k en h' ⟨a, n, cm, ts, rfl, ha, e7, e6, e8, e0, ho, hfr, hlen, hs, hn, hts⟩
    by_cases h1 : a < L.length
    · have hg : (L.map bv)[a]? = some (bv L[a]) := by simp [List.getElem?_map, h1]
      have hcons : L.drop a = L[a] :: L.drop (a + 1) := List.drop_eq_getElem_cons h1
      have wa : IntKind.wrap .i64 ((a : Int) + 1) = ((a + 1 : Nat) : Int) := by rw [wrap_i64 (by omega) (by omega)]; rfl
      have wn : IntKind.wrap .i64 ((n : Int) + 1) = ((n + 1 : Nat) : Int) := by rw [wrap_i64 (by omega) (by omega)]; rfl
      have next : ∀ (n' : Nat) (cm' : Bool), n' ≤ a + 2 → scanB cm' (L.drop (a + 1)) n' ts = scanB false L 1 [] → ∃ j, j < L.length - a ∧ ∃ (a1 n1 : Nat) (cm1 : Bool) (ts1 : List (Tk × Nat)), j = L.length - a1 ∧ a1 ≤ L.length ∧ V.sc (.int .i64 ((a + 1 : Nat) : Int)) = V.int a1 ∧ V.sc (.int .i64 (n' : Int)) = V.int n1 ∧ V.sc (.bool cm') = .bool cm1 ∧ IsOut h' h.length (en 5) ts1 ∧ (∀ i, i < h.length → h'[i]? = h[i]?) ∧ h.length ≤ h'.length ∧ scanB cm1 (L.drop a1) n1 ts1 = scanB false L 1 [] ∧ n1 ≤ a1 + 1 ∧ ts1.length ≤ a1 := fun n' cm' h2 h3 =>
        ⟨L.length - (a + 1), by omega, a + 1, n', cm', ts, rfl, by omega, rfl, rfl, rfl, ho, hfr, hlen, h3, by omega, by omega⟩
      by_cases h10 : L[a].toNat = 10
      · have h10' : (L[a].toNat : Int) = 10 := by omega
        simp only [WpC_skip, WpC_ret, WpC_exit, WpC_region, WpC_seqD, WpC_block, WpC_condD, thenC_normal, thenC_ret, thenC_exit, thenQ_normal, thenQ_ret, thenQ_exit, condQ_true, condQ_false, condQ_bool, opQ_some, opQ_none, guardQ_tt, guardQ_tf, guardQ_ft, guardQ_ff, guardQ_no, blockQ_normal, blockQ_ret, blockQ_exit, endP_ret, endP_normal, endI_ret, endI_normal, resQ_some, Frz_sci, Frz_slci, FrzL_nili, FrzL_consi, Frz_tupi, Frz_aggi, Frz_ifci, oneCell, WpO_keep1, offV_ptr, offV_nil, blkNe_ptr, blkNe_sc, blkNe_slc, blkNe_eptr, blkNe_agg, blkNe_hsl, AOp.opds, Nat.reduceAdd, WpO_opD, WpO_nil, WpO_callD, WpO_guardD, step, Opd.get, put_app, put_none, ne_eq, reduceCtorEq, not_false_eq_true, not_true_eq_false, implies_true, slcLen, Option.map_some, Option.map_none, Option.bind_some, Option.bind_none, bin, binInt, reduceIte, Nat.reduceEqDiff, List.getD_cons_zero, List.getD_cons_succ, IntKind.signed, indexV, asNat?, loadV, cutCells, unary, evRess, evRes1, oneOrTup, wrapV, target, getsO, List.nil_append, List.append_nil, List.cons_append, Bool.false_eq_true, Bool.true_eq_false, decide_eq_true_eq, Bool.not_eq_true', decide_eq_false_iff_not, Bool.not_true, Bool.not_false, List.take_length, and_true, true_and, Int.ofNat_lt, Int.ofNat_le, Int.natCast_nonneg, Int.toNat_natCast, ge_iff_le, gt_iff_lt, if_true, if_false, List.length_map, decide_true, decide_false, int_beq, int_bne, bne_iff_ne, beq_iff_eq, Int.natCast_inj, Bool.and_eq_true, decide_not, Decidable.not_not, boundO, sliceV, exTo, Nat.zero_le, Nat.le_refl, Bool.or_true, beq_self_eq_true, Option.getD_some, Option.getD_none, List.drop_zero, Nat.sub_zero, and_self, or_true, true_or, or_self, false_or, or_false, and_false, false_and, Cp.isFull, isNil, moveV, Nat.add_zero, Nat.zero_add, Int.reduceLE, Int.reduceLT, Int.reduceEq, Int.reduceBEq, Int.reduceGT, Int.reduceGE, Nat.reduceLT, Nat.reduceLeDiff, e7, e6, e8, e0, h1, hg, List.getElem?_cons_zero, h10', wa, wn]
        refine next (n + 1) false (by omega) ?_
        rw [← hs, hcons]
        simp only [scanB, scanA_skip_nl h10]
      have h10' : ¬ (L[a].toNat : Int) = 10 := by omega
      cases cm with
      | true =>
        simp only [WpC_skip, WpC_ret, WpC_exit, WpC_region, WpC_seqD, WpC_block, WpC_condD, thenC_normal, thenC_ret, thenC_exit, thenQ_normal, thenQ_ret, thenQ_exit, condQ_true, condQ_false, condQ_bool, opQ_some, opQ_none, guardQ_tt, guardQ_tf, guardQ_ft, guardQ_ff, guardQ_no, blockQ_normal, blockQ_ret, blockQ_exit, endP_ret, endP_normal, endI_ret, endI_normal, resQ_some, Frz_sci, Frz_slci, FrzL_nili, FrzL_consi, Frz_tupi, Frz_aggi, Frz_ifci, oneCell, WpO_keep1, offV_ptr, offV_nil, blkNe_ptr, blkNe_sc, blkNe_slc, blkNe_eptr, blkNe_agg, blkNe_hsl, AOp.opds, Nat.reduceAdd, WpO_opD, WpO_nil, WpO_callD, WpO_guardD, step, Opd.get, put_app, put_none, ne_eq, reduceCtorEq, not_false_eq_true, not_true_eq_false, implies_true, slcLen, Option.map_some, Option.map_none, Option.bind_some, Option.bind_none, bin, binInt, reduceIte, Nat.reduceEqDiff, List.getD_cons_zero, List.getD_cons_succ, IntKind.signed, indexV, asNat?, loadV, cutCells, unary, evRess, evRes1, oneOrTup, wrapV, target, getsO, List.nil_append, List.append_nil, List.cons_append, Bool.false_eq_true, Bool.true_eq_false, decide_eq_true_eq, Bool.not_eq_true', decide_eq_false_iff_not, Bool.not_true, Bool.not_false, List.take_length, and_true, true_and, Int.ofNat_lt, Int.ofNat_le, Int.natCast_nonneg, Int.toNat_natCast, ge_iff_le, gt_iff_lt, if_true, if_false, List.length_map, decide_true, decide_false, int_beq, int_bne, bne_iff_ne, beq_iff_eq, Int.natCast_inj, Bool.and_eq_true, decide_not, Decidable.not_not, boundO, sliceV, exTo, Nat.zero_le, Nat.le_refl, Bool.or_true, beq_self_eq_true, Option.getD_some, Option.getD_none, List.drop_zero, Nat.sub_zero, and_self, or_true, true_or, or_self, false_or, or_false, and_false, false_and, Cp.isFull, isNil, moveV, Nat.add_zero, Nat.zero_add, Int.reduceLE, Int.reduceLT, Int.reduceEq, Int.reduceBEq, Int.reduceGT, Int.reduceGE, Nat.reduceLT, Nat.reduceLeDiff, e7, e6, e8, e0, h1, hg, List.getElem?_cons_zero, h10', wa, wn]
        refine next n true (by omega) ?_
        rw [← hs, hcons]
        simp only [scanB, skip_blank h10 (.inl rfl)]
      | false =>
        by_cases h32 : L[a].toNat = 32
        · have h32' : (L[a].toNat : Int) = 32 := by omega
          simp only [WpC_skip, WpC_ret, WpC_exit, WpC_region, WpC_seqD, WpC_block, WpC_condD, thenC_normal, thenC_ret, thenC_exit, thenQ_normal, thenQ_ret, thenQ_exit, condQ_true, condQ_false, condQ_bool, opQ_some, opQ_none, guardQ_tt, guardQ_tf, guardQ_ft, guardQ_ff, guardQ_no, blockQ_normal, blockQ_ret, blockQ_exit, endP_ret, endP_normal, endI_ret, endI_normal, resQ_some, Frz_sci, Frz_slci, FrzL_nili, FrzL_consi, Frz_tupi, Frz_aggi, Frz_ifci, oneCell, WpO_keep1, offV_ptr, offV_nil, blkNe_ptr, blkNe_sc, blkNe_slc, blkNe_eptr, blkNe_agg, blkNe_hsl, AOp.opds, Nat.reduceAdd, WpO_opD, WpO_nil, WpO_callD, WpO_guardD, step, Opd.get, put_app, put_none, ne_eq, reduceCtorEq, not_false_eq_true, not_true_eq_false, implies_true, slcLen, Option.map_some, Option.map_none, Option.bind_some, Option.bind_none, bin, binInt, reduceIte, Nat.reduceEqDiff, List.getD_cons_zero, List.getD_cons_succ, IntKind.signed, indexV, asNat?, loadV, cutCells, unary, evRess, evRes1, oneOrTup, wrapV, target, getsO, List.nil_append, List.append_nil, List.cons_append, Bool.false_eq_true, Bool.true_eq_false, decide_eq_true_eq, Bool.not_eq_true', decide_eq_false_iff_not, Bool.not_true, Bool.not_false, List.take_length, and_true, true_and, Int.ofNat_lt, Int.ofNat_le, Int.natCast_nonneg, Int.toNat_natCast, ge_iff_le, gt_iff_lt, if_true, if_false, List.length_map, decide_true, decide_false, int_beq, int_bne, bne_iff_ne, beq_iff_eq, Int.natCast_inj, Bool.and_eq_true, decide_not, Decidable.not_not, boundO, sliceV, exTo, Nat.zero_le, Nat.le_refl, Bool.or_true, beq_self_eq_true, Option.getD_some, Option.getD_none, List.drop_zero, Nat.sub_zero, and_self, or_true, true_or, or_self, false_or, or_false, and_false, false_and, Cp.isFull, isNil, moveV, Nat.add_zero, Nat.zero_add, Int.reduceLE, Int.reduceLT, Int.reduceEq, Int.reduceBEq, Int.reduceGT, Int.reduceGE, Nat.reduceLT, Nat.reduceLeDiff, e7, e6, e8, e0, h1, hg, List.getElem?_cons_zero, h10', h32', wa, wn]
          refine next n false (by omega) ?_
          rw [← hs, hcons]
          simp only [scanB, skip_blank h10 (.inr (.inl h32))]
        have h32' : ¬ (L[a].toNat : Int) = 32 := by omega
        by_cases h9 : L[a].toNat = 9
        · have h9' : (L[a].toNat : Int) = 9 := by omega
          simp only [WpC_skip, WpC_ret, WpC_exit, WpC_region, WpC_seqD, WpC_block, WpC_condD, thenC_normal, thenC_ret, thenC_exit, thenQ_normal, thenQ_ret, thenQ_exit, condQ_true, condQ_false, condQ_bool, opQ_some, opQ_none, guardQ_tt, guardQ_tf, guardQ_ft, guardQ_ff, guardQ_no, blockQ_normal, blockQ_ret, blockQ_exit, endP_ret, endP_normal, endI_ret, endI_normal, resQ_some, Frz_sci, Frz_slci, FrzL_nili, FrzL_consi, Frz_tupi, Frz_aggi, Frz_ifci, oneCell, WpO_keep1, offV_ptr, offV_nil, blkNe_ptr, blkNe_sc, blkNe_slc, blkNe_eptr, blkNe_agg, blkNe_hsl, AOp.opds, Nat.reduceAdd, WpO_opD, WpO_nil, WpO_callD, WpO_guardD, step, Opd.get, put_app, put_none, ne_eq, reduceCtorEq, not_false_eq_true, not_true_eq_false, implies_true, slcLen, Option.map_some, Option.map_none, Option.bind_some, Option.bind_none, bin, binInt, reduceIte, Nat.reduceEqDiff, List.getD_cons_zero, List.getD_cons_succ, IntKind.signed, indexV, asNat?, loadV, cutCells, unary, evRess, evRes1, oneOrTup, wrapV, target, getsO, List.nil_append, List.append_nil, List.cons_append, Bool.false_eq_true, Bool.true_eq_false, decide_eq_true_eq, Bool.not_eq_true', decide_eq_false_iff_not, Bool.not_true, Bool.not_false, List.take_length, and_true, true_and, Int.ofNat_lt, Int.ofNat_le, Int.natCast_nonneg, Int.toNat_natCast, ge_iff_le, gt_iff_lt, if_true, if_false, List.length_map, decide_true, decide_false, int_beq, int_bne, bne_iff_ne, beq_iff_eq, Int.natCast_inj, Bool.and_eq_true, decide_not, Decidable.not_not, boundO, sliceV, exTo, Nat.zero_le, Nat.le_refl, Bool.or_true, beq_self_eq_true, Option.getD_some, Option.getD_none, List.drop_zero, Nat.sub_zero, and_self, or_true, true_or, or_self, false_or, or_false, and_false, false_and, Cp.isFull, isNil, moveV, Nat.add_zero, Nat.zero_add, Int.reduceLE, Int.reduceLT, Int.reduceEq, Int.reduceBEq, Int.reduceGT, Int.reduceGE, Nat.reduceLT, Nat.reduceLeDiff, e7, e6, e8, e0, h1, hg, List.getElem?_cons_zero, h10', h32', h9', wa, wn]
          refine next n false (by omega) ?_
          rw [← hs, hcons]
          simp only [scanB, skip_blank h10 (.inr (.inr (.inl h9)))]
        have h9' : ¬ (L[a].toNat : Int) = 9 := by omega
        by_cases h13 : L[a].toNat = 13
        · have h13' : (L[a].toNat : Int) = 13 := by omega
          simp only [WpC_skip, WpC_ret, WpC_exit, WpC_region, WpC_seqD, WpC_block, WpC_condD, thenC_normal, thenC_ret, thenC_exit, thenQ_normal, thenQ_ret, thenQ_exit, condQ_true, condQ_false, condQ_bool, opQ_some, opQ_none, guardQ_tt, guardQ_tf, guardQ_ft, guardQ_ff, guardQ_no, blockQ_normal, blockQ_ret, blockQ_exit, endP_ret, endP_normal, endI_ret, endI_normal, resQ_some, Frz_sci, Frz_slci, FrzL_nili, FrzL_consi, Frz_tupi, Frz_aggi, Frz_ifci, oneCell, WpO_keep1, offV_ptr, offV_nil, blkNe_ptr, blkNe_sc, blkNe_slc, blkNe_eptr, blkNe_agg, blkNe_hsl, AOp.opds, Nat.reduceAdd, WpO_opD, WpO_nil, WpO_callD, WpO_guardD, step, Opd.get, put_app, put_none, ne_eq, reduceCtorEq, not_false_eq_true, not_true_eq_false, implies_true, slcLen, Option.map_some, Option.map_none, Option.bind_some, Option.bind_none, bin, binInt, reduceIte, Nat.reduceEqDiff, List.getD_cons_zero, List.getD_cons_succ, IntKind.signed, indexV, asNat?, loadV, cutCells, unary, evRess, evRes1, oneOrTup, wrapV, target, getsO, List.nil_append, List.append_nil, List.cons_append, Bool.false_eq_true, Bool.true_eq_false, decide_eq_true_eq, Bool.not_eq_true', decide_eq_false_iff_not, Bool.not_true, Bool.not_false, List.take_length, and_true, true_and, Int.ofNat_lt, Int.ofNat_le, Int.natCast_nonneg, Int.toNat_natCast, ge_iff_le, gt_iff_lt, if_true, if_false, List.length_map, decide_true, decide_false, int_beq, int_bne, bne_iff_ne, beq_iff_eq, Int.natCast_inj, Bool.and_eq_true, decide_not, Decidable.not_not, boundO, sliceV, exTo, Nat.zero_le, Nat.le_refl, Bool.or_true, beq_self_eq_true, Option.getD_some, Option.getD_none, List.drop_zero, Nat.sub_zero, and_self, or_true, true_or, or_self, false_or, or_false, and_false, false_and, Cp.isFull, isNil, moveV, Nat.add_zero, Nat.zero_add, Int.reduceLE, Int.reduceLT, Int.reduceEq, Int.reduceBEq, Int.reduceGT, Int.reduceGE, Nat.reduceLT, Nat.reduceLeDiff, e7, e6, e8, e0, h1, hg, List.getElem?_cons_zero, h10', h32', h9', h13', wa, wn]
          refine next n false (by omega) ?_
          rw [← hs, hcons]
          simp only [scanB, skip_blank h10 (.inr (.inr (.inr h13)))]
        have h13' : ¬ (L[a].toNat : Int) = 13 := by omega
        by_cases h35 : L[a].toNat = 35
        · have h35' : (L[a].toNat : Int) = 35 := by omega
          simp only [WpC_skip, WpC_ret, WpC_exit, WpC_region, WpC_seqD, WpC_block, WpC_condD, thenC_normal, thenC_ret, thenC_exit, thenQ_normal, thenQ_ret, thenQ_exit, condQ_true, condQ_false, condQ_bool, opQ_some, opQ_none, guardQ_tt, guardQ_tf, guardQ_ft, guardQ_ff, guardQ_no, blockQ_normal, blockQ_ret, blockQ_exit, endP_ret, endP_normal, endI_ret, endI_normal, resQ_some, Frz_sci, Frz_slci, FrzL_nili, FrzL_consi, Frz_tupi, Frz_aggi, Frz_ifci, oneCell, WpO_keep1, offV_ptr, offV_nil, blkNe_ptr, blkNe_sc, blkNe_slc, blkNe_eptr, blkNe_agg, blkNe_hsl, AOp.opds, Nat.reduceAdd, WpO_opD, WpO_nil, WpO_callD, WpO_guardD, step, Opd.get, put_app, put_none, ne_eq, reduceCtorEq, not_false_eq_true, not_true_eq_false, implies_true, slcLen, Option.map_some, Option.map_none, Option.bind_some, Option.bind_none, bin, binInt, reduceIte, Nat.reduceEqDiff, List.getD_cons_zero, List.getD_cons_succ, IntKind.signed, indexV, asNat?, loadV, cutCells, unary, evRess, evRes1, oneOrTup, wrapV, target, getsO, List.nil_append, List.append_nil, List.cons_append, Bool.false_eq_true, Bool.true_eq_false, decide_eq_true_eq, Bool.not_eq_true', decide_eq_false_iff_not, Bool.not_true, Bool.not_false, List.take_length, and_true, true_and, Int.ofNat_lt, Int.ofNat_le, Int.natCast_nonneg, Int.toNat_natCast, ge_iff_le, gt_iff_lt, if_true, if_false, List.length_map, decide_true, decide_false, int_beq, int_bne, bne_iff_ne, beq_iff_eq, Int.natCast_inj, Bool.and_eq_true, decide_not, Decidable.not_not, boundO, sliceV, exTo, Nat.zero_le, Nat.le_refl, Bool.or_true, beq_self_eq_true, Option.getD_some, Option.getD_none, List.drop_zero, Nat.sub_zero, and_self, or_true, true_or, or_self, false_or, or_false, and_false, false_and, Cp.isFull, isNil, moveV, Nat.add_zero, Nat.zero_add, Int.reduceLE, Int.reduceLT, Int.reduceEq, Int.reduceBEq, Int.reduceGT, Int.reduceGE, Nat.reduceLT, Nat.reduceLeDiff, e7, e6, e8, e0, h1, hg, List.getElem?_cons_zero, h10', h32', h9', h13', h35', wa, wn]
          refine next n true (by omega) ?_
          rw [← hs, hcons]
          simp only [scanB, skip_hash h35]
        have h35' : ¬ (L[a].toNat : Int) = 35 := by omega
        have hst : scanB false (L.drop a) n ts = scanA (L.drop a) n ts := by
          unfold scanB
          rw [hcons, skip_none h10 h32 h9 h13 h35]
        rw [hst] at hs
        have htok := refTok_tok (L.drop a) a
        have hend := refTok_end (L.drop a) a
        simp only [List.length_drop] at hend
        have hw := fun base h => refToken_r (base := base) (ex := ex) (L := L) (a := a) h h1 (by omega)
        generalize hq : refTok (L.drop a) a = q at *
        obtain ⟨t, e, ok⟩ := q
        simp only at htok hw hend
        cases ok with
        | false =>
          have hfin : scanB false L 1 [] = .error n := by rw [← hs]; exact scanA_none (by rw [hcons]; exact List.cons_ne_nil _ _) htok
          rw [hfin]
          have hf4 : ∀ r', (h' ++ r').take h.length = h := fun r' => take_of_frame fun i hi => by rw [get_low (by omega), hfr i hi]
          simp only [WpC_skip, WpC_ret, WpC_exit, WpC_region, WpC_seqD, WpC_block, WpC_condD, thenC_normal, thenC_ret, thenC_exit, thenQ_normal, thenQ_ret, thenQ_exit, condQ_true, condQ_false, condQ_bool, opQ_some, opQ_none, guardQ_tt, guardQ_tf, guardQ_ft, guardQ_ff, guardQ_no, blockQ_normal, blockQ_ret, blockQ_exit, endP_ret, endP_normal, endI_ret, endI_normal, resQ_some, Frz_sci, Frz_slci, FrzL_nili, FrzL_consi, Frz_tupi, Frz_aggi, Frz_ifci, oneCell, WpO_keep1, offV_ptr, offV_nil, blkNe_ptr, blkNe_sc, blkNe_slc, blkNe_eptr, blkNe_agg, blkNe_hsl, AOp.opds, Nat.reduceAdd, WpO_opD, WpO_nil, WpO_callD, WpO_guardD, step, Opd.get, put_app, put_none, ne_eq, reduceCtorEq, not_false_eq_true, not_true_eq_false, implies_true, slcLen, Option.map_some, Option.map_none, Option.bind_some, Option.bind_none, bin, binInt, reduceIte, Nat.reduceEqDiff, List.getD_cons_zero, List.getD_cons_succ, IntKind.signed, indexV, asNat?, loadV, cutCells, unary, evRess, evRes1, oneOrTup, wrapV, target, getsO, List.nil_append, List.append_nil, List.cons_append, Bool.false_eq_true, Bool.true_eq_false, decide_eq_true_eq, Bool.not_eq_true', decide_eq_false_iff_not, Bool.not_true, Bool.not_false, List.take_length, and_true, true_and, Int.ofNat_lt, Int.ofNat_le, Int.natCast_nonneg, Int.toNat_natCast, ge_iff_le, gt_iff_lt, if_true, if_false, List.length_map, decide_true, decide_false, int_beq, int_bne, bne_iff_ne, beq_iff_eq, Int.natCast_inj, Bool.and_eq_true, decide_not, Decidable.not_not, boundO, sliceV, exTo, Nat.zero_le, Nat.le_refl, Bool.or_true, beq_self_eq_true, Option.getD_some, Option.getD_none, List.drop_zero, Nat.sub_zero, and_self, or_true, true_or, or_self, false_or, or_false, and_false, false_and, Cp.isFull, isNil, moveV, Nat.add_zero, Nat.zero_add, Int.reduceLE, Int.reduceLT, Int.reduceEq, Int.reduceBEq, Int.reduceGT, Int.reduceGE, Nat.reduceLT, Nat.reduceLeDiff, e7, e6, e8, e0, h1, hg, List.getElem?_cons_zero, List.getElem?_cons_succ, h10', h32', h9', h13', h35', callD_ret (hw _ _), st0a (hs := h') rfl, List.length_cons, List.length_nil, last_get, hf4]
        | true =>
          simp only [if_true] at htok
          have hlt := tok_lt htok
          simp only [List.length_drop] at hlt
          have hwn : storeV h.length (h' ++ [.box 36 (rowOf t 0)]) 1 (.ptr h'.length 3) (V.int n) = some (h' ++ [.box 36 (rowOf t n)]) := by
            refine (store_box (n := 1) (last_get _ _) rfl rfl (by simp) (by simp [mayStore, refsLts, refsLt, V.cells])).trans ?_
            rw [last_set]
            rfl
          obtain ⟨x', H2, hap, ho2, hf2, hl2⟩ := (ho.app [.box 36 (rowOf t n)]).snoc (base := h.length) (by simp; omega) (by omega) t n
          have hfr4 : fillRows 4 (List.replicate 1 Zc) [(0, .agg (rowOf t n))] = some [rowOf t n] := rfl
          have hgr : ([rowOf t n].all fun r => r.all ground) = true := rfl
          simp only [WpC_skip, WpC_ret, WpC_exit, WpC_region, WpC_seqD, WpC_block, WpC_condD, thenC_normal, thenC_ret, thenC_exit, thenQ_normal, thenQ_ret, thenQ_exit, condQ_true, condQ_false, condQ_bool, opQ_some, opQ_none, guardQ_tt, guardQ_tf, guardQ_ft, guardQ_ff, guardQ_no, blockQ_normal, blockQ_ret, blockQ_exit, endP_ret, endP_normal, endI_ret, endI_normal, resQ_some, Frz_sci, Frz_slci, FrzL_nili, FrzL_consi, Frz_tupi, Frz_aggi, Frz_ifci, oneCell, WpO_keep1, offV_ptr, offV_nil, blkNe_ptr, blkNe_sc, blkNe_slc, blkNe_eptr, blkNe_agg, blkNe_hsl, AOp.opds, Nat.reduceAdd, WpO_opD, WpO_nil, WpO_callD, WpO_guardD, step, Opd.get, put_app, put_none, ne_eq, reduceCtorEq, not_false_eq_true, not_true_eq_false, implies_true, slcLen, Option.map_some, Option.map_none, Option.bind_some, Option.bind_none, bin, binInt, reduceIte, Nat.reduceEqDiff, List.getD_cons_zero, List.getD_cons_succ, IntKind.signed, indexV, asNat?, loadV, cutCells, unary, evRess, evRes1, oneOrTup, wrapV, target, getsO, List.nil_append, List.append_nil, List.cons_append, Bool.false_eq_true, Bool.true_eq_false, decide_eq_true_eq, Bool.not_eq_true', decide_eq_false_iff_not, Bool.not_true, Bool.not_false, List.take_length, and_true, true_and, Int.ofNat_lt, Int.ofNat_le, Int.natCast_nonneg, Int.toNat_natCast, ge_iff_le, gt_iff_lt, if_true, if_false, List.length_map, decide_true, decide_false, int_beq, int_bne, bne_iff_ne, beq_iff_eq, Int.natCast_inj, Bool.and_eq_true, decide_not, Decidable.not_not, boundO, sliceV, exTo, Nat.zero_le, Nat.le_refl, Bool.or_true, beq_self_eq_true, Option.getD_some, Option.getD_none, List.drop_zero, Nat.sub_zero, and_self, or_true, true_or, or_self, false_or, or_false, and_false, false_and, Cp.isFull, isNil, moveV, Nat.add_zero, Nat.zero_add, Int.reduceLE, Int.reduceLT, Int.reduceEq, Int.reduceBEq, Int.reduceGT, Int.reduceGE, Nat.reduceLT, Nat.reduceLeDiff, e7, e6, e8, e0, h1, hg, List.getElem?_cons_zero, List.getElem?_cons_succ, h10', h32', h9', h13', h35', callD_ret (hw _ _), st0a (hs := h') rfl, List.length_cons, List.length_nil, last_get, take4, hwn, getParts2, hfr4, hgr, srcRows, elems, hap]
          refine ⟨L.length - e, by omega, e, n, false, ts ++ [(t, n)], rfl, by omega, rfl, rfl, rfl, ho2, ?_, ?_, ?_, by omega, ?_⟩
          · intro i hi
            rw [hf2 i hi, get_low (by omega), hfr i hi]
          · simp at hl2; omega
          · rw [← hs, scanA_some htok, List.drop_drop]
            have : a + (e - a) = e := by omega
            rw [this]
            rfl
          · simp only [List.length_append, List.length_cons, List.length_nil]
            omega
    · have hfin : scanB false L 1 [] = .ok ts := by
        rw [← hs, List.drop_of_length_le (by omega)]
        exact scanA_nil n ts
      rw [hfin]
      simp only [WpC_skip, WpC_ret, WpC_exit, WpC_region, WpC_seqD, WpC_block, WpC_condD, thenC_normal, thenC_ret, thenC_exit, thenQ_normal, thenQ_ret, thenQ_exit, condQ_true, condQ_false, condQ_bool, opQ_some, opQ_none, guardQ_tt, guardQ_tf, guardQ_ft, guardQ_ff, guardQ_no, blockQ_normal, blockQ_ret, blockQ_exit, endP_ret, endP_normal, endI_ret, endI_normal, resQ_some, Frz_sci, Frz_slci, FrzL_nili, FrzL_consi, Frz_tupi, Frz_aggi, Frz_ifci, oneCell, WpO_keep1, offV_ptr, offV_nil, blkNe_ptr, blkNe_sc, blkNe_slc, blkNe_eptr, blkNe_agg, blkNe_hsl, AOp.opds, Nat.reduceAdd, WpO_opD, WpO_nil, WpO_callD, WpO_guardD, step, Opd.get, put_app, put_none, ne_eq, reduceCtorEq, not_false_eq_true, not_true_eq_false, implies_true, slcLen, Option.map_some, Option.map_none, Option.bind_some, Option.bind_none, bin, binInt, reduceIte, Nat.reduceEqDiff, List.getD_cons_zero, List.getD_cons_succ, IntKind.signed, indexV, asNat?, loadV, cutCells, unary, evRess, evRes1, oneOrTup, wrapV, target, getsO, List.nil_append, List.append_nil, List.cons_append, Bool.false_eq_true, Bool.true_eq_false, decide_eq_true_eq, Bool.not_eq_true', decide_eq_false_iff_not, Bool.not_true, Bool.not_false, List.take_length, and_true, true_and, Int.ofNat_lt, Int.ofNat_le, Int.natCast_nonneg, Int.toNat_natCast, ge_iff_le, gt_iff_lt, if_true, if_false, List.length_map, decide_true, decide_false, int_beq, int_bne, bne_iff_ne, beq_iff_eq, Int.natCast_inj, Bool.and_eq_true, decide_not, Decidable.not_not, boundO, sliceV, exTo, Nat.zero_le, Nat.le_refl, Bool.or_true, beq_self_eq_true, Option.getD_some, Option.getD_none, List.drop_zero, Nat.sub_zero, and_self, or_true, true_or, or_self, false_or, or_false, and_false, false_and, Cp.isFull, isNil, moveV, Nat.add_zero, Nat.zero_add, Int.reduceLE, Int.reduceLT, Int.reduceEq, Int.reduceBEq, Int.reduceGT, Int.reduceGE, Nat.reduceLT, Nat.reduceLeDiff, e7, e6, e8, e0, h1, ho.frz (Nat.le_refl _), take_of_frame hfr]
end Go.Am
end
section
/- Am: the plain law of LexScans. -/
set_option linter.unusedSimpArgs false
namespace Go.Am

/-- A slice of tokens, to be read. -/
def ReadsT (h : Heap) (x : V) (rs : List (List V)) : Prop := slcLen x = some rs.length ∧ ∀ i (hi : i < rs.length), ∃ a, indexV h 4 i x = some a ∧ loadV h (some 4) a = some (.agg rs[i])

theorem reads_out (h : Heap) (ts : List (Tk × Nat)) : ReadsT h (outV ts) (rows ts) := by
  by_cases he : ts = []
  · subst he
    refine ⟨rfl, fun i hi => ?_⟩
    simp at hi
  · have ho : outV ts = .slc .any 4 (rows ts) := if_neg he
    rw [ho]
    refine ⟨rfl, fun i hi => ⟨.eptr (rows ts)[i] 0, ?_, ?_⟩⟩
    · simp only [indexV, if_true, List.getElem?_eq_getElem hi, Option.map_some]
    · have : i < ts.length := by simpa using hi
      have hr : (rows ts)[i] = rowOf ts[i].1 ts[i].2 := by simp [rows]
      rw [hr]
      rfl

theorem bs_refl (s : ByteArray) : (s == s) = true := by
  cases s with
  | mk d =>
    show (d == d) = true
    exact beq_self_eq_true d
theorem eqLeaves_row (t : Tk) (n : Nat) : eqLeaves (rowOf t n) (rowOf t n) [(0, .i), (1, .s), (2, .i), (3, .i)] = some true := by
  simp [eqLeaves, eqCell, bs_refl]

theorem same_r {base : Nat} {x y : V} {ts : List (Tk × Nat)} {h : Heap} (hx : ReadsT h x (rows ts)) (hy : ReadsT h y (rows ts)) (hl : ts.length < 2 ^ 62) : WpF S0 base k_spinnakerref22_Same [x, y] h fun v h' => v = .bool true ∧ h' = h := by
  refine WpF_pure (A := f_spinnakerref22_Same) rfl rfl rfl rfl ?_
  simp only [f_spinnakerref22_Same]
  obtain ⟨lx, ix⟩ := hx
  obtain ⟨ly, iy⟩ := hy
  rw [List.length_map] at lx ly
  simp only [WpC_skip, WpC_ret, WpC_exit, WpC_region, WpC_seqD, WpC_block, WpC_condD, thenC_normal, thenC_ret, thenC_exit, thenQ_normal, thenQ_ret, thenQ_exit, condQ_true, condQ_false, condQ_bool, opQ_some, opQ_none, guardQ_tt, guardQ_tf, guardQ_ft, guardQ_ff, guardQ_no, blockQ_normal, blockQ_ret, blockQ_exit, endP_ret, endP_normal, endI_ret, endI_normal, resQ_some, Frz_sci, Frz_slci, FrzL_nili, FrzL_consi, Frz_tupi, Frz_aggi, Frz_ifci, oneCell, WpO_keep1, offV_ptr, offV_nil, blkNe_ptr, blkNe_sc, blkNe_slc, blkNe_eptr, blkNe_agg, blkNe_hsl, AOp.opds, Nat.reduceAdd, WpO_opD, WpO_nil, WpO_callD, WpO_guardD, step, Opd.get, put_app, put_none, ne_eq, reduceCtorEq, not_false_eq_true, not_true_eq_false, implies_true, Option.map_some, Option.map_none, Option.bind_some, Option.bind_none, bin, binInt, reduceIte, Nat.reduceEqDiff, List.getD_cons_zero, List.getD_cons_succ, IntKind.signed, indexV, asNat?, loadV, cutCells, unary, evRess, evRes1, oneOrTup, wrapV, target, getsO, List.nil_append, List.append_nil, List.cons_append, Bool.false_eq_true, Bool.true_eq_false, decide_eq_true_eq, Bool.not_eq_true', decide_eq_false_iff_not, Bool.not_true, Bool.not_false, List.take_length, and_true, true_and, Int.ofNat_lt, Int.ofNat_le, Int.natCast_nonneg, Int.toNat_natCast, ge_iff_le, gt_iff_lt, if_true, if_false, List.length_map, decide_true, decide_false, int_beq, int_bne, bne_iff_ne, beq_iff_eq, Int.natCast_inj, Bool.and_eq_true, decide_not, Decidable.not_not, boundO, sliceV, exTo, Nat.zero_le, Nat.le_refl, Bool.or_true, beq_self_eq_true, Option.getD_some, Option.getD_none, List.drop_zero, Nat.sub_zero, and_self, or_true, true_or, or_self, false_or, or_false, and_false, false_and, Cp.isFull, isNil, moveV, Nat.add_zero, Nat.zero_add, Int.reduceLE, Int.reduceLT, Int.reduceEq, Int.reduceBEq, Int.reduceGT, Int.reduceGE, Nat.reduceLT, Nat.reduceLeDiff, lx, ly]
  refine WpC_loopI (fun k en h' => ∃ i : Nat, k = ts.length - i ∧ i ≤ ts.length ∧ en 5 = V.int i ∧ en 0 = x ∧ en 1 = y ∧ h' = h) ts.length ⟨0, rfl, Nat.zero_le _, rfl, rfl, rfl, rfl⟩ ?_
  rintro k en h' ⟨i, rfl, hi, e5, e0, e1, rfl⟩
  by_cases h1 : i < ts.length
  · obtain ⟨a, a1, a2⟩ := ix i (by simpa using h1)
    obtain ⟨c, c1, c2⟩ := iy i (by simpa using h1)
    have hr : (rows ts)[i]'(by simpa using h1) = rowOf ts[i].1 ts[i].2 := by simp [rows]
    rw [hr] at a2 c2
    simp only [WpC_skip, WpC_ret, WpC_exit, WpC_region, WpC_seqD, WpC_block, WpC_condD, thenC_normal, thenC_ret, thenC_exit, thenQ_normal, thenQ_ret, thenQ_exit, condQ_true, condQ_false, condQ_bool, opQ_some, opQ_none, guardQ_tt, guardQ_tf, guardQ_ft, guardQ_ff, guardQ_no, blockQ_normal, blockQ_ret, blockQ_exit, endP_ret, endP_normal, endI_ret, endI_normal, resQ_some, Frz_sci, Frz_slci, FrzL_nili, FrzL_consi, Frz_tupi, Frz_aggi, Frz_ifci, oneCell, WpO_keep1, offV_ptr, offV_nil, blkNe_ptr, blkNe_sc, blkNe_slc, blkNe_eptr, blkNe_agg, blkNe_hsl, AOp.opds, Nat.reduceAdd, WpO_opD, WpO_nil, WpO_callD, WpO_guardD, step, Opd.get, put_app, put_none, ne_eq, reduceCtorEq, not_false_eq_true, not_true_eq_false, implies_true, Option.map_some, Option.map_none, Option.bind_some, Option.bind_none, bin, binInt, reduceIte, Nat.reduceEqDiff, List.getD_cons_zero, List.getD_cons_succ, IntKind.signed, asNat?, cutCells, unary, evRess, evRes1, oneOrTup, wrapV, target, getsO, List.nil_append, List.append_nil, List.cons_append, Bool.false_eq_true, Bool.true_eq_false, decide_eq_true_eq, Bool.not_eq_true', decide_eq_false_iff_not, Bool.not_true, Bool.not_false, List.take_length, and_true, true_and, Int.ofNat_lt, Int.ofNat_le, Int.natCast_nonneg, Int.toNat_natCast, ge_iff_le, gt_iff_lt, if_true, if_false, List.length_map, decide_true, decide_false, int_beq, int_bne, bne_iff_ne, beq_iff_eq, Int.natCast_inj, Bool.and_eq_true, decide_not, Decidable.not_not, boundO, sliceV, exTo, Nat.zero_le, Nat.le_refl, Bool.or_true, beq_self_eq_true, Option.getD_some, Option.getD_none, List.drop_zero, Nat.sub_zero, and_self, or_true, true_or, or_self, false_or, or_false, and_false, false_and, Cp.isFull, isNil, moveV, Nat.add_zero, Nat.zero_add, Int.reduceLE, Int.reduceLT, Int.reduceEq, Int.reduceBEq, Int.reduceGT, Int.reduceGE, Nat.reduceLT, Nat.reduceLeDiff, e5, e0, e1, lx, h1, a1, a2, c1, c2, eqLeaves_row]
    exact ⟨ts.length - (i + 1), by omega, i + 1, rfl, by omega, by rw [wrap_i64 (by omega) (by omega)]; rfl⟩
  · simp only [WpC_skip, WpC_ret, WpC_exit, WpC_region, WpC_seqD, WpC_block, WpC_condD, thenC_normal, thenC_ret, thenC_exit, thenQ_normal, thenQ_ret, thenQ_exit, condQ_true, condQ_false, condQ_bool, opQ_some, opQ_none, guardQ_tt, guardQ_tf, guardQ_ft, guardQ_ff, guardQ_no, blockQ_normal, blockQ_ret, blockQ_exit, endP_ret, endP_normal, endI_ret, endI_normal, resQ_some, Frz_sci, Frz_slci, FrzL_nili, FrzL_consi, Frz_tupi, Frz_aggi, Frz_ifci, oneCell, WpO_keep1, offV_ptr, offV_nil, blkNe_ptr, blkNe_sc, blkNe_slc, blkNe_eptr, blkNe_agg, blkNe_hsl, AOp.opds, Nat.reduceAdd, WpO_opD, WpO_nil, WpO_callD, WpO_guardD, step, Opd.get, put_app, put_none, ne_eq, reduceCtorEq, not_false_eq_true, not_true_eq_false, implies_true, Option.map_some, Option.map_none, Option.bind_some, Option.bind_none, bin, binInt, reduceIte, Nat.reduceEqDiff, List.getD_cons_zero, List.getD_cons_succ, IntKind.signed, indexV, asNat?, loadV, cutCells, unary, evRess, evRes1, oneOrTup, wrapV, target, getsO, List.nil_append, List.append_nil, List.cons_append, Bool.false_eq_true, Bool.true_eq_false, decide_eq_true_eq, Bool.not_eq_true', decide_eq_false_iff_not, Bool.not_true, Bool.not_false, List.take_length, and_true, true_and, Int.ofNat_lt, Int.ofNat_le, Int.natCast_nonneg, Int.toNat_natCast, ge_iff_le, gt_iff_lt, if_true, if_false, List.length_map, decide_true, decide_false, int_beq, int_bne, bne_iff_ne, beq_iff_eq, Int.natCast_inj, Bool.and_eq_true, decide_not, Decidable.not_not, boundO, sliceV, exTo, Nat.zero_le, Nat.le_refl, Bool.or_true, beq_self_eq_true, Option.getD_some, Option.getD_none, List.drop_zero, Nat.sub_zero, and_self, or_true, true_or, or_self, false_or, or_false, and_false, false_and, Cp.isFull, isNil, moveV, Nat.add_zero, Nat.zero_add, Int.reduceLE, Int.reduceLT, Int.reduceEq, Int.reduceBEq, Int.reduceGT, Int.reduceGE, Nat.reduceLT, Nat.reduceLeDiff, e5, e0, e1, lx, h1]

theorem scanA_len (l : List UInt8) (n : Nat) (acc ts : List (Tk × Nat)) (h : scanA l n acc = .ok ts) : ts.length ≤ acc.length + l.length := by
  induction hk : l.length using Nat.strongRecOn generalizing l n acc with
  | _ k ih =>
    cases l with
    | nil =>
      rw [scanA_nil] at h
      injection h with h
      subst h
      omega
    | cons c r =>
      cases htk : tok (c :: r) with
      | none => rw [scanA_none (by simp) htk] at h; simp at h
      | some p =>
        obtain ⟨t, rest⟩ := p
        rw [scanA_some htk] at h
        have h1 := tok_lt htk
        have h2 := (skipC_le false rest n).1
        have := ih _ (by omega) _ _ _ h rfl
        simp only [List.length_append, List.length_cons, List.length_nil] at this h1 hk
        omega

theorem scanV_form (L : List UInt8) : ∃ ts n e, scanV L = .tup [outV ts, .sc (.int .i64 n), .sc (.int .i64 e)] ∧ ts.length ≤ 16384 := by
  unfold scanV
  by_cases hb : 16384 < L.length
  · rw [if_pos hb]
    exact ⟨[], 0, 3, rfl, by simp⟩
  · rw [if_neg hb]
    split
    · rename_i ts hs
      have h1 := scanA_len _ _ _ _ hs
      have h2 := (skipC_le false L 1).1
      exact ⟨ts, 0, 0, rfl, by simp at h1; omega⟩
    · rename_i n hs
      exact ⟨[], n, 20, rfl, by simp⟩

/-- THE PLAIN LAW of LexScans. -/
theorem lexScans_law (ex : Cp) (L : List UInt8) : WpF S0 0 k_spinnakerlaw22_LexScans [.slc ex 1 (L.map bv)] [] fun v _ => v = .bool true := by
  refine WpF_pure (A := f_spinnakerlaw22_LexScans) rfl rfl rfl rfl ?_
  have aw : WpF S0 ([] : Heap).length 17 [] [] fun v h' => v = .bool true ∧ h' = [] := lexAwake_r
  simp only [f_spinnakerlaw22_LexScans]
  by_cases h1 : 5000 < L.length ∧ L.length ≤ 16384
  · have h1' : (5000 : Int) < L.length := by omega
    have h2' : (L.length : Int) ≤ 16384 := by omega
    simp only [WpC_skip, WpC_ret, WpC_exit, WpC_region, WpC_seqD, WpC_block, WpC_condD, thenC_normal, thenC_ret, thenC_exit, thenQ_normal, thenQ_ret, thenQ_exit, condQ_true, condQ_false, condQ_bool, opQ_some, opQ_none, guardQ_tt, guardQ_tf, guardQ_ft, guardQ_ff, guardQ_no, blockQ_normal, blockQ_ret, blockQ_exit, endP_ret, endP_normal, endI_ret, endI_normal, resQ_some, Frz_sci, Frz_slci, FrzL_nili, FrzL_consi, Frz_tupi, Frz_aggi, Frz_ifci, oneCell, WpO_keep1, offV_ptr, offV_nil, blkNe_ptr, blkNe_sc, blkNe_slc, blkNe_eptr, blkNe_agg, blkNe_hsl, AOp.opds, Nat.reduceAdd, WpO_opD, WpO_nil, WpO_callD, WpO_guardD, step, Opd.get, put_app, put_none, ne_eq, reduceCtorEq, not_false_eq_true, not_true_eq_false, implies_true, slcLen, Option.map_some, Option.map_none, Option.bind_some, Option.bind_none, bin, binInt, reduceIte, Nat.reduceEqDiff, List.getD_cons_zero, List.getD_cons_succ, IntKind.signed, indexV, asNat?, loadV, cutCells, unary, evRess, evRes1, oneOrTup, wrapV, target, getsO, List.nil_append, List.append_nil, List.cons_append, Bool.false_eq_true, Bool.true_eq_false, decide_eq_true_eq, Bool.not_eq_true', decide_eq_false_iff_not, Bool.not_true, Bool.not_false, List.take_length, and_true, true_and, Int.ofNat_lt, Int.ofNat_le, Int.natCast_nonneg, Int.toNat_natCast, ge_iff_le, gt_iff_lt, if_true, if_false, List.length_map, decide_true, decide_false, int_beq, int_bne, bne_iff_ne, beq_iff_eq, Int.natCast_inj, Bool.and_eq_true, decide_not, Decidable.not_not, boundO, sliceV, exTo, Nat.zero_le, Nat.le_refl, Bool.or_true, beq_self_eq_true, Option.getD_some, Option.getD_none, List.drop_zero, Nat.sub_zero, and_self, or_true, true_or, or_self, false_or, or_false, and_false, false_and, Cp.isFull, isNil, moveV, Nat.add_zero, Nat.zero_add, Int.reduceLE, Int.reduceLT, Int.reduceEq, Int.reduceBEq, Int.reduceGT, Int.reduceGE, Nat.reduceLT, Nat.reduceLeDiff, h1', h2', callD_ret aw]
  · obtain ⟨ts, n, e, hv, hts⟩ := scanV_form L
    have c1 := fun base h => scan_r (base := base) ex L h
    have c2 := fun base h => refScan_r (base := base) ex L h
    rw [hv] at c1 c2
    by_cases h5 : 5000 < L.length
    · have h1' : (5000 : Int) < L.length := by omega
      have h2' : ¬ (L.length : Int) ≤ 16384 := by omega
      simp only [WpC_skip, WpC_ret, WpC_exit, WpC_region, WpC_seqD, WpC_block, WpC_condD, thenC_normal, thenC_ret, thenC_exit, thenQ_normal, thenQ_ret, thenQ_exit, condQ_true, condQ_false, condQ_bool, opQ_some, opQ_none, guardQ_tt, guardQ_tf, guardQ_ft, guardQ_ff, guardQ_no, blockQ_normal, blockQ_ret, blockQ_exit, endP_ret, endP_normal, endI_ret, endI_normal, resQ_some, Frz_sci, Frz_slci, FrzL_nili, FrzL_consi, Frz_tupi, Frz_aggi, Frz_ifci, oneCell, WpO_keep1, offV_ptr, offV_nil, blkNe_ptr, blkNe_sc, blkNe_slc, blkNe_eptr, blkNe_agg, blkNe_hsl, AOp.opds, Nat.reduceAdd, WpO_opD, WpO_nil, WpO_callD, WpO_guardD, step, Opd.get, put_app, put_none, ne_eq, reduceCtorEq, not_false_eq_true, not_true_eq_false, implies_true, slcLen, Option.map_some, Option.map_none, Option.bind_some, Option.bind_none, bin, binInt, reduceIte, Nat.reduceEqDiff, List.getD_cons_zero, List.getD_cons_succ, IntKind.signed, indexV, asNat?, loadV, cutCells, unary, evRess, evRes1, oneOrTup, wrapV, target, getsO, List.nil_append, List.append_nil, List.cons_append, Bool.false_eq_true, Bool.true_eq_false, decide_eq_true_eq, Bool.not_eq_true', decide_eq_false_iff_not, Bool.not_true, Bool.not_false, List.take_length, and_true, true_and, Int.ofNat_lt, Int.ofNat_le, Int.natCast_nonneg, Int.toNat_natCast, ge_iff_le, gt_iff_lt, if_true, if_false, List.length_map, decide_true, decide_false, int_beq, int_bne, bne_iff_ne, beq_iff_eq, Int.natCast_inj, Bool.and_eq_true, decide_not, Decidable.not_not, boundO, sliceV, exTo, Nat.zero_le, Nat.le_refl, Bool.or_true, beq_self_eq_true, Option.getD_some, Option.getD_none, List.drop_zero, Nat.sub_zero, and_self, or_true, true_or, or_self, false_or, or_false, and_false, false_and, Cp.isFull, isNil, moveV, Nat.add_zero, Nat.zero_add, Int.reduceLE, Int.reduceLT, Int.reduceEq, Int.reduceBEq, Int.reduceGT, Int.reduceGE, Nat.reduceLT, Nat.reduceLeDiff, h1', h2', callD_ret (c1 _ _), callD_ret (c2 _ _), List.getElem?_cons_zero, List.getElem?_cons_succ, callD_ret (same_r (reads_out _ ts) (reads_out _ ts) (by omega)), callD_ret aw]
    · have h1' : ¬ (5000 : Int) < L.length := by omega
      simp only [WpC_skip, WpC_ret, WpC_exit, WpC_region, WpC_seqD, WpC_block, WpC_condD, thenC_normal, thenC_ret, thenC_exit, thenQ_normal, thenQ_ret, thenQ_exit, condQ_true, condQ_false, condQ_bool, opQ_some, opQ_none, guardQ_tt, guardQ_tf, guardQ_ft, guardQ_ff, guardQ_no, blockQ_normal, blockQ_ret, blockQ_exit, endP_ret, endP_normal, endI_ret, endI_normal, resQ_some, Frz_sci, Frz_slci, FrzL_nili, FrzL_consi, Frz_tupi, Frz_aggi, Frz_ifci, oneCell, WpO_keep1, offV_ptr, offV_nil, blkNe_ptr, blkNe_sc, blkNe_slc, blkNe_eptr, blkNe_agg, blkNe_hsl, AOp.opds, Nat.reduceAdd, WpO_opD, WpO_nil, WpO_callD, WpO_guardD, step, Opd.get, put_app, put_none, ne_eq, reduceCtorEq, not_false_eq_true, not_true_eq_false, implies_true, slcLen, Option.map_some, Option.map_none, Option.bind_some, Option.bind_none, bin, binInt, reduceIte, Nat.reduceEqDiff, List.getD_cons_zero, List.getD_cons_succ, IntKind.signed, indexV, asNat?, loadV, cutCells, unary, evRess, evRes1, oneOrTup, wrapV, target, getsO, List.nil_append, List.append_nil, List.cons_append, Bool.false_eq_true, Bool.true_eq_false, decide_eq_true_eq, Bool.not_eq_true', decide_eq_false_iff_not, Bool.not_true, Bool.not_false, List.take_length, and_true, true_and, Int.ofNat_lt, Int.ofNat_le, Int.natCast_nonneg, Int.toNat_natCast, ge_iff_le, gt_iff_lt, if_true, if_false, List.length_map, decide_true, decide_false, int_beq, int_bne, bne_iff_ne, beq_iff_eq, Int.natCast_inj, Bool.and_eq_true, decide_not, Decidable.not_not, boundO, sliceV, exTo, Nat.zero_le, Nat.le_refl, Bool.or_true, beq_self_eq_true, Option.getD_some, Option.getD_none, List.drop_zero, Nat.sub_zero, and_self, or_true, true_or, or_self, false_or, or_false, and_false, false_and, Cp.isFull, isNil, moveV, Nat.add_zero, Nat.zero_add, Int.reduceLE, Int.reduceLT, Int.reduceEq, Int.reduceBEq, Int.reduceGT, Int.reduceGE, Nat.reduceLT, Nat.reduceLeDiff, h1', callD_ret (c1 _ _), callD_ret (c2 _ _), List.getElem?_cons_zero, List.getElem?_cons_succ, callD_ret (same_r (reads_out _ ts) (reads_out _ ts) (by omega)), callD_ret aw]
end Go.Am
end
section
/- Am: tokens, written. -/
set_option linter.unusedSimpArgs false
namespace Go.Am

theorem bs_append (a b : List UInt8) : bs a ++ bs b = bs (a ++ b) := by
  apply ByteArray.ext
  simp [bs]
theorem bs_of (s : ByteArray) : bs s.data.toList = s := by
  cases s
  simp [bs]

theorem valL_cons (c : UInt8) (w : List UInt8) : valL (c :: w) = (c.toNat - 48) * 10 ^ w.length + valL w := by
  have : ∀ (w : List UInt8) (n : Nat), w.foldl (fun n c => 10 * n + (c.toNat - 48)) n = n * 10 ^ w.length + valL w := by
    intro w
    induction w with
    | nil => intro n; simp [valL]
    | cons d w ih =>
      intro n
      simp only [List.foldl_cons, List.length_cons, valL]
      rw [ih, ih (10 * 0 + (d.toNat - 48)), Nat.pow_succ]
      simp only [Nat.mul_zero, Nat.zero_add, Nat.add_mul]
      have : 10 * n * 10 ^ w.length = n * (10 ^ w.length * 10) := by
        rw [Nat.mul_comm 10 n, Nat.mul_assoc, Nat.mul_comm 10]
      omega
  unfold valL
  rw [List.foldl_cons, this]
  simp [valL]

theorem dig_char (d : Nat) (h : d < 10) : (⟨#[48, 49, 50, 51, 52, 53, 54, 55, 56, 57]⟩ : ByteArray).extract d (d + 1) = bs [UInt8.ofNat (48 + d)] := by
  match d, h with
  | 0, _ | 1, _ | 2, _ | 3, _ | 4, _ | 5, _ | 6, _ | 7, _ | 8, _ | 9, _ => decide

theorem dig_nat (d : Nat) (h : d < 10) : (UInt8.ofNat (48 + d)).toNat = 48 + d := by
  rw [UInt8.toNat_ofNat_of_lt' (by show 48 + d < 256; omega)]

/-- The digits of a number. -/
theorem digits_r {base : Nat} (n : Nat) (h : Heap) (hn : n < 2 ^ 63) : ∃ w : List UInt8, w ≠ [] ∧ w.length ≤ 19 ∧ (∀ c ∈ w, digitB c.toNat = true) ∧ valL w = n ∧ ∀ base, WpF S0 base k_spinnakerref22_Digits [V.int n] h fun v h' => v = .sc (.string (bs w)) ∧ h' = h := by
  have key : WpF S0 base k_spinnakerref22_Digits [V.int n] h fun v h' => ∃ w : List UInt8, w ≠ [] ∧ w.length ≤ 19 ∧ (∀ c ∈ w, digitB c.toNat = true) ∧ valL w = n ∧ (v = .sc (.string (bs w)) ∧ h' = h) := by
    refine WpF_pure (A := f_spinnakerref22_Digits) rfl rfl rfl rfl ?_
    simp only [f_spinnakerref22_Digits]
    simp only [WpC_skip, WpC_ret, WpC_exit, WpC_region, WpC_seqD, WpC_block, WpC_condD, thenC_normal, thenC_ret, thenC_exit, thenQ_normal, thenQ_ret, thenQ_exit, condQ_true, condQ_false, condQ_bool, opQ_some, opQ_none, guardQ_tt, guardQ_tf, guardQ_ft, guardQ_ff, guardQ_no, blockQ_normal, blockQ_ret, blockQ_exit, endP_ret, endP_normal, endI_ret, endI_normal, resQ_some, Frz_sci, Frz_slci, FrzL_nili, FrzL_consi, Frz_tupi, Frz_aggi, Frz_ifci, oneCell, WpO_keep1, offV_ptr, offV_nil, blkNe_ptr, blkNe_sc, blkNe_slc, blkNe_eptr, blkNe_agg, blkNe_hsl, AOp.opds, Nat.reduceAdd, WpO_opD, WpO_nil, WpO_callD, WpO_guardD, step, Opd.get, put_app, put_none, ne_eq, reduceCtorEq, not_false_eq_true, not_true_eq_false, implies_true, slcLen, Option.map_some, Option.map_none, Option.bind_some, Option.bind_none, bin, binInt, reduceIte, Nat.reduceEqDiff, List.getD_cons_zero, List.getD_cons_succ, IntKind.signed, indexV, asNat?, loadV, cutCells, unary, evRess, evRes1, oneOrTup, wrapV, target, getsO, List.nil_append, List.append_nil, List.cons_append, Bool.false_eq_true, Bool.true_eq_false, decide_eq_true_eq, Bool.not_eq_true', decide_eq_false_iff_not, Bool.not_true, Bool.not_false, List.take_length, and_true, true_and, Int.ofNat_lt, Int.ofNat_le, Int.natCast_nonneg, Int.toNat_natCast, ge_iff_le, gt_iff_lt, if_true, if_false, List.length_map, decide_true, decide_false, int_beq, int_bne, bne_iff_ne, beq_iff_eq, Int.natCast_inj, Bool.and_eq_true, decide_not, Decidable.not_not, boundO, sliceV, exTo, Nat.zero_le, Nat.le_refl, Bool.or_true, beq_self_eq_true, Option.getD_some, Option.getD_none, List.drop_zero, Nat.sub_zero, and_self, or_true, true_or, or_self, false_or, or_false, and_false, false_and, Cp.isFull, isNil, moveV, Nat.add_zero, Nat.zero_add, Int.reduceLE, Int.reduceLT, Int.reduceEq, Int.reduceBEq, Int.reduceGT, Int.reduceGE, Nat.reduceLT, Nat.reduceLeDiff]
    refine WpC_loopI (fun k en h' => ∃ (m : Nat) (w : List UInt8), k = m ∧ en 0 = V.int m ∧ en 3 = .sc (.string (bs w)) ∧ (∀ c ∈ w, digitB c.toNat = true) ∧ n = m * 10 ^ w.length + valL w ∧ (w = [] ∨ 1 ≤ m) ∧ w.length ≤ 18 ∧ h' = h) n ⟨n, [], rfl, rfl, rfl, by simp, by simp [valL], .inl rfl, by simp, rfl⟩ ?_
    rintro m en h' ⟨_, w, rfl, e0, e3, hd, hnm, hw, hl, rfl⟩
    have hm10 : m % 10 < 10 := Nat.mod_lt _ (by decide)
    have r1 : Int.tmod (m : Int) 10 = ((m % 10 : Nat) : Int) := by rw [show (10 : Int) = ((10 : Nat) : Int) from rfl, ← Int.ofNat_tmod]
    have r2 : IntKind.wrap .i64 (((m % 10 : Nat) : Int) + 1) = ((m % 10 + 1 : Nat) : Int) := by rw [wrap_i64 (by omega) (by omega)]; rfl
    have hmn : m ≤ n := by
      rw [hnm]
      have : m * 1 ≤ m * 10 ^ w.length := Nat.mul_le_mul_left _ (Nat.pow_pos (by decide))
      omega
    have r3 : IntKind.wrap .i64 (Int.tdiv (m : Int) 10) = ((m / 10 : Nat) : Int) := by
      rw [show (10 : Int) = ((10 : Nat) : Int) from rfl, ← Int.ofNat_tdiv]
      exact wrap_i64 (by omega) (by omega)
    have sz : (⟨#[48, 49, 50, 51, 52, 53, 54, 55, 56, 57]⟩ : ByteArray).size = 10 := rfl
    have b1 : m % 10 + 1 ≤ 10 := by omega
    have b2 : m % 10 ≤ m % 10 + 1 := by omega
    have b3 : [UInt8.ofNat (48 + m % 10)].length + w.length ≤ lim := by unfold lim; simp; omega
    have hval : n = m / 10 * 10 ^ (w.length + 1) + valL (UInt8.ofNat (48 + m % 10) :: w) := by
      rw [valL_cons, dig_nat _ hm10, Nat.add_sub_cancel_left, Nat.pow_succ, hnm]
      have e1 : m / 10 * (10 ^ w.length * 10) = (m / 10 * 10) * 10 ^ w.length := by rw [Nat.mul_comm (10 ^ w.length) 10, ← Nat.mul_assoc]
      have e2 : m = m / 10 * 10 + m % 10 := by omega
      rw [e1]
      conv => lhs; rw [e2]
      rw [Nat.add_mul]
      omega
    have hdc : ∀ c ∈ UInt8.ofNat (48 + m % 10) :: w, digitB c.toNat = true := by
      intro c hc
      rcases List.mem_cons.1 hc with rfl | hc
      · rw [dig_nat _ hm10]
        unfold digitB
        simp only [decide_eq_true_eq]
        omega
      · exact hd c hc
    by_cases hz : m / 10 = 0
    · have hz' : ((m / 10 : Nat) : Int) ≤ 0 := by omega
      simp only [WpC_skip, WpC_ret, WpC_exit, WpC_region, WpC_seqD, WpC_block, WpC_condD, thenC_normal, thenC_ret, thenC_exit, thenQ_normal, thenQ_ret, thenQ_exit, condQ_true, condQ_false, condQ_bool, opQ_some, opQ_none, guardQ_tt, guardQ_tf, guardQ_ft, guardQ_ff, guardQ_no, blockQ_normal, blockQ_ret, blockQ_exit, endP_ret, endP_normal, endI_ret, endI_normal, resQ_some, Frz_sci, Frz_slci, FrzL_nili, FrzL_consi, Frz_tupi, Frz_aggi, Frz_ifci, oneCell, WpO_keep1, offV_ptr, offV_nil, blkNe_ptr, blkNe_sc, blkNe_slc, blkNe_eptr, blkNe_agg, blkNe_hsl, AOp.opds, Nat.reduceAdd, WpO_opD, WpO_nil, WpO_callD, WpO_guardD, step, Opd.get, put_app, put_none, ne_eq, reduceCtorEq, not_false_eq_true, not_true_eq_false, implies_true, slcLen, Option.map_some, Option.map_none, Option.bind_some, Option.bind_none, bin, binInt, reduceIte, Nat.reduceEqDiff, List.getD_cons_zero, List.getD_cons_succ, IntKind.signed, indexV, asNat?, loadV, cutCells, unary, evRess, evRes1, oneOrTup, wrapV, target, getsO, List.nil_append, List.append_nil, List.cons_append, Bool.false_eq_true, Bool.true_eq_false, decide_eq_true_eq, Bool.not_eq_true', decide_eq_false_iff_not, Bool.not_true, Bool.not_false, List.take_length, and_true, true_and, Int.ofNat_lt, Int.ofNat_le, Int.natCast_nonneg, Int.toNat_natCast, ge_iff_le, gt_iff_lt, if_true, if_false, List.length_map, decide_true, decide_false, int_beq, int_bne, bne_iff_ne, beq_iff_eq, Int.natCast_inj, Bool.and_eq_true, decide_not, Decidable.not_not, boundO, sliceV, exTo, Nat.zero_le, Nat.le_refl, Bool.or_true, beq_self_eq_true, Option.getD_some, Option.getD_none, List.drop_zero, Nat.sub_zero, and_self, or_true, true_or, or_self, false_or, or_false, and_false, false_and, Cp.isFull, isNil, moveV, Nat.add_zero, Nat.zero_add, Int.reduceLE, Int.reduceLT, Int.reduceEq, Int.reduceBEq, Int.reduceGT, Int.reduceGE, Nat.reduceLT, Nat.reduceLeDiff, e0, e3, r1, r2, r3, sz, b1, b2, dig_char _ hm10, binStr, bs_size, b3, bs_append, hz']
      refine ⟨UInt8.ofNat (48 + m % 10) :: w, by simp, by simp; omega, hdc, ?_, rfl⟩
      rw [hz] at hval
      omega
    · have hz' : ¬ ((m / 10 : Nat) : Int) ≤ 0 := by omega
      simp only [WpC_skip, WpC_ret, WpC_exit, WpC_region, WpC_seqD, WpC_block, WpC_condD, thenC_normal, thenC_ret, thenC_exit, thenQ_normal, thenQ_ret, thenQ_exit, condQ_true, condQ_false, condQ_bool, opQ_some, opQ_none, guardQ_tt, guardQ_tf, guardQ_ft, guardQ_ff, guardQ_no, blockQ_normal, blockQ_ret, blockQ_exit, endP_ret, endP_normal, endI_ret, endI_normal, resQ_some, Frz_sci, Frz_slci, FrzL_nili, FrzL_consi, Frz_tupi, Frz_aggi, Frz_ifci, oneCell, WpO_keep1, offV_ptr, offV_nil, blkNe_ptr, blkNe_sc, blkNe_slc, blkNe_eptr, blkNe_agg, blkNe_hsl, AOp.opds, Nat.reduceAdd, WpO_opD, WpO_nil, WpO_callD, WpO_guardD, step, Opd.get, put_app, put_none, ne_eq, reduceCtorEq, not_false_eq_true, not_true_eq_false, implies_true, slcLen, Option.map_some, Option.map_none, Option.bind_some, Option.bind_none, bin, binInt, reduceIte, Nat.reduceEqDiff, List.getD_cons_zero, List.getD_cons_succ, IntKind.signed, indexV, asNat?, loadV, cutCells, unary, evRess, evRes1, oneOrTup, wrapV, target, getsO, List.nil_append, List.append_nil, List.cons_append, Bool.false_eq_true, Bool.true_eq_false, decide_eq_true_eq, Bool.not_eq_true', decide_eq_false_iff_not, Bool.not_true, Bool.not_false, List.take_length, and_true, true_and, Int.ofNat_lt, Int.ofNat_le, Int.natCast_nonneg, Int.toNat_natCast, ge_iff_le, gt_iff_lt, if_true, if_false, List.length_map, decide_true, decide_false, int_beq, int_bne, bne_iff_ne, beq_iff_eq, Int.natCast_inj, Bool.and_eq_true, decide_not, Decidable.not_not, boundO, sliceV, exTo, Nat.zero_le, Nat.le_refl, Bool.or_true, beq_self_eq_true, Option.getD_some, Option.getD_none, List.drop_zero, Nat.sub_zero, and_self, or_true, true_or, or_self, false_or, or_false, and_false, false_and, Cp.isFull, isNil, moveV, Nat.add_zero, Nat.zero_add, Int.reduceLE, Int.reduceLT, Int.reduceEq, Int.reduceBEq, Int.reduceGT, Int.reduceGE, Nat.reduceLT, Nat.reduceLeDiff, e0, e3, r1, r2, r3, sz, b1, b2, dig_char _ hm10, binStr, bs_size, b3, bs_append, hz']
      refine ⟨m / 10, by omega, m / 10, UInt8.ofNat (48 + m % 10) :: w, rfl, rfl, rfl, hdc, hval, .inr (by omega), ?_⟩
      simp only [List.length_cons]
      have hp : 10 ^ (w.length + 1) ≤ n := by
        rw [hval]
        have : 1 * 10 ^ (w.length + 1) ≤ m / 10 * 10 ^ (w.length + 1) := Nat.mul_le_mul_right _ (by omega)
        omega
      rcases Nat.lt_or_ge w.length 18 with h18 | h18
      · omega
      · exfalso
        have : 10 ^ 19 ≤ 10 ^ (w.length + 1) := Nat.pow_le_pow_right (by decide) (by omega)
        omega
  obtain ⟨w, hw⟩ := key.ex
  have hw' := hw
  obtain ⟨k, v, h', e, h1, h2, h3, h4, h5, h6⟩ := hw'
  refine ⟨w, h1, h2, h3, h4, fun b => ?_⟩
  subst h5 h6
  exact ⟨k, _, _, (by
    cases k with
    | zero => simp [evCall] at e
    | succ k => exact e), rfl, rfl⟩

/-! ### Tokens that are written -/
theorem takeWhile_stop {p : UInt8 → Bool} {w : List UInt8} {c : UInt8} {X : List UInt8} (hw : ∀ x ∈ w, p x = true) (hc : p c = false) : (w ++ c :: X).takeWhile p = w ∧ (w ++ c :: X).dropWhile p = c :: X := by
  induction w with
  | nil => simp [hc]
  | cons d w ih =>
    have hd := hw d (by simp)
    obtain ⟨i1, i2⟩ := ih fun x hx => hw x (by simp [hx])
    rw [List.cons_append, List.takeWhile_cons_of_pos hd, List.dropWhile_cons_of_pos hd, i1, i2]
    exact ⟨rfl, rfl⟩

theorem tok_name {c : UInt8} {w X : List UInt8} (h1 : letterB c.toNat = true) (h2 : ∀ x ∈ c :: w, eitherB x = true) (h3 : (c :: w).length ≤ 32) : tok ((c :: w) ++ 32 :: X) = some ((1, c :: w, 0), 32 :: X) := by
  obtain ⟨t1, t2⟩ := takeWhile_stop (X := X) h2 (show eitherB 32 = false by decide)
  rw [List.cons_append] at t1 t2 ⊢
  simp only [tok, h1, if_true, t1, t2, h3]
theorem digit_letter {c : UInt8} (h : digitB c.toNat = true) : letterB c.toNat = false := by
  have := digit_le h
  unfold letterB
  simp only [decide_eq_false_iff_not]
  omega
theorem tok_number {c : UInt8} {w X : List UInt8} (h2 : ∀ x ∈ c :: w, digitB x.toNat = true) (h3 : valL (c :: w) < 2 ^ 63) : tok ((c :: w) ++ 32 :: X) = some ((2, [], valL (c :: w)), 32 :: X) := by
  obtain ⟨t1, t2⟩ := takeWhile_stop (p := digB) (X := X) h2 (show digB 32 = false by decide)
  have hc := h2 c (by simp)
  have hl := digit_letter hc
  have hf : farB (32 :: X) = true := by
    show (!letterB ((32 : UInt8).toNat : Int)) = true
    decide
  rw [List.cons_append] at t1 t2 ⊢
  simp only [tok, hl, hc, if_true, t1, t2, h3, hf, and_self, Bool.false_eq_true, if_false]
theorem preB_take {l m : List UInt8} (hl : 2 ≤ l.length) (hm : m.length ≤ 2) : preB l m = preB (l.take 2) m := by
  unfold preB
  have e1 : (decide (m.length ≤ l.length)) = decide (m.length ≤ (l.take 2).length) := by
    rw [decide_eq_true (by omega), decide_eq_true (by rw [List.length_take]; omega)]
  rw [e1, List.take_take, Nat.min_eq_left hm]
theorem find_congr {p q : List UInt8 → Bool} : ∀ {l : List (List UInt8)}, (∀ x ∈ l, p x = q x) → l.find? p = l.find? q
  | [], _ => rfl
  | a :: l, h => by
    rw [List.find?_cons, List.find?_cons, h a (by simp), find_congr fun x hx => h x (by simp [hx])]
def startB (w : List UInt8) : Bool := match w with | c :: _ => !letterB c.toNat && !digitB c.toNat && decide (c.toNat ≠ 10 ∧ c.toNat ≠ 32 ∧ c.toNat ≠ 9 ∧ c.toNat ≠ 13 ∧ c.toNat ≠ 35) | [] => false
theorem sign_all : (signsL.all fun w => decide (signF ((w ++ [32]).take 2) = some w) && decide (1 ≤ w.length ∧ w.length ≤ 2) && startB w) = true := by decide
theorem sign_closed {c : UInt8} {w : List UInt8} (h : c :: w ∈ signsL) : signF (((c :: w) ++ [32]).take 2) = some (c :: w) ∧ (c :: w).length ≤ 2 ∧ letterB c.toNat = false ∧ digitB c.toNat = false ∧ (c.toNat ≠ 10 ∧ c.toNat ≠ 32 ∧ c.toNat ≠ 9 ∧ c.toNat ≠ 13 ∧ c.toNat ≠ 35) := by
  have := List.all_eq_true.1 sign_all _ h
  simp only [Bool.and_eq_true, decide_eq_true_eq, startB, Bool.not_eq_true'] at this
  obtain ⟨⟨h1, _, h2⟩, ⟨h3, h4⟩, h5⟩ := this
  exact ⟨h1, h2, h3, h4, h5⟩
theorem tok_sign {c : UInt8} {w X : List UInt8} (hw : c :: w ∈ signsL) : tok ((c :: w) ++ 32 :: X) = some ((3, c :: w, 0), 32 :: X) := by
  obtain ⟨h1, h3, h4, h5, _⟩ := sign_closed hw
  have hs : signF (c :: (w ++ 32 :: X)) = some (c :: w) := by
    unfold signF
    rw [find_congr (q := preB (((c :: w) ++ [32]).take 2)) fun m hm => by
      rw [preB_take (by simp only [List.length_cons, List.length_append]; omega) (signs_le m hm)]
      congr 1
      simp only [List.cons_append, List.take_succ_cons, List.cons.injEq, true_and]
      cases w with
      | nil => rfl
      | cons d w => rfl]
    exact h1
  simp only [List.cons_append, tok, h4, h5, hs, Bool.false_eq_true, if_false, Option.map_some, List.length_cons, List.drop_succ_cons, List.drop_left]
end Go.Am
end
section
/- Am: the plain law of LexBack. -/
set_option linter.unusedSimpArgs false
namespace Go.Am

theorem st0s {base N off : Nat} {hs r : Heap} {t : TypeId} {cs : List V} {v : Value} (hN : hs.length = N) (ho : off < cs.length) : storeV base (hs ++ .box t cs :: r) 1 (.ptr N off) (.sc v) = some (hs ++ .box t (cs.set off (.sc v)) :: r) := by
  subst hN
  refine (store_box (n := 1) get_at0 rfl rfl (by omega) (by simp [mayStore, refsLts, refsLt, V.cells])).trans ?_
  have : putCells cs off [V.sc v] = cs.set off (.sc v) := by
    unfold putCells
    rw [List.set_eq_take_append_cons_drop, if_pos ho]
    simp
  simp [V.cells, this]

/-- A token as it is handed in. -/
abbrev ArgT := Int × List UInt8 × Int × Int
abbrev argRow (t : ArgT) : List V := [.sc (.int .i64 t.1), .sc (.string (bs t.2.1)), .sc (.int .i64 t.2.2.1), .sc (.int .i64 t.2.2.2)]

/-- A text, all of whose tokens are known, whatever follows. -/
def GoodT (T : List UInt8) (line : Nat) (ts : List (Tk × Nat)) : Prop := ∀ R, scanB false (T ++ R) 1 [] = scanB false R line ts

theorem GoodT.nil : GoodT [] 1 [] := fun _ => rfl
theorem skip_start {w X : List UInt8} {line : Nat} (hs : ∃ c r, w = c :: r ∧ c.toNat ≠ 10 ∧ c.toNat ≠ 32 ∧ c.toNat ≠ 9 ∧ c.toNat ≠ 13 ∧ c.toNat ≠ 35) : skipC false (w ++ X) line = (w ++ X, line) := by
  obtain ⟨c, r, rfl, h1, h2, h3, h4, h5⟩ := hs
  exact skip_none h1 h2 h3 h4 h5
theorem scan_word {w : List UInt8} {t : Tk} {line : Nat} {ts : List (Tk × Nat)} (hs : ∃ c r, w = c :: r ∧ c.toNat ≠ 10 ∧ c.toNat ≠ 32 ∧ c.toNat ≠ 9 ∧ c.toNat ≠ 13 ∧ c.toNat ≠ 35) (ht : ∀ X, tok (w ++ 32 :: X) = some (t, 32 :: X)) (X : List UInt8) :
    scanB false (w ++ 32 :: X) line ts = scanB false X line (ts ++ [(t, line)]) := by
  unfold scanB
  rw [skip_start hs, scanA_some (ht X)]
  have : skipC false (32 :: X) line = skipC false X line := skip_blank (by decide) (.inr (.inl (by decide)))
  rw [this]
theorem scan_comment {line : Nat} {ts : List (Tk × Nat)} (X : List UInt8) : scanB false (35 :: 32 :: 98 :: 10 :: X) line ts = scanB false X (line + 1) ts := by
  unfold scanB
  have e1 : skipC false (35 :: 32 :: 98 :: 10 :: X) line = skipC true (32 :: 98 :: 10 :: X) line := skip_hash (by decide)
  have e2 : skipC true (32 :: 98 :: 10 :: X) line = skipC true (98 :: 10 :: X) line := skip_blank (by decide) (.inl rfl)
  have e3 : skipC true (98 :: 10 :: X) line = skipC true (10 :: X) line := skip_blank (by decide) (.inl rfl)
  have e4 : skipC true (10 :: X) line = skipC false X (line + 1) := scanA_skip_nl (by decide)
  rw [e1, e2, e3, e4]
theorem GoodT.word {T w : List UInt8} {t : Tk} {line : Nat} {ts : List (Tk × Nat)} (hg : GoodT T line ts) (hs : ∃ c r, w = c :: r ∧ c.toNat ≠ 10 ∧ c.toNat ≠ 32 ∧ c.toNat ≠ 9 ∧ c.toNat ≠ 13 ∧ c.toNat ≠ 35) (ht : ∀ X, tok (w ++ 32 :: X) = some (t, 32 :: X)) :
    GoodT (T ++ w ++ [32]) line (ts ++ [(t, line)]) := fun R => by
  rw [List.append_assoc, List.append_assoc, hg]
  exact scan_word hs ht R
theorem GoodT.comment {T : List UInt8} {line : Nat} {ts : List (Tk × Nat)} (hg : GoodT T line ts) : GoodT (T ++ [35, 32, 98, 10]) (line + 1) ts := fun R => by
  rw [List.append_assoc, hg]
  exact scan_comment R

theorem letter_start {c : UInt8} (h : letterB c.toNat = true) : c.toNat ≠ 10 ∧ c.toNat ≠ 32 ∧ c.toNat ≠ 9 ∧ c.toNat ≠ 13 ∧ c.toNat ≠ 35 := by
  unfold letterB at h
  simp only [decide_eq_true_eq] at h
  omega
/-- What may be written as a name. -/
def nameOk (w : List UInt8) : Bool := match w with | c :: _ => letterB c.toNat && w.all eitherB && decide (w.length ≤ 32) | [] => false
theorem name_ok {s : List UInt8} (h : nameB (bs s) = true) : nameOk s = true := by
  unfold nameB at h
  simp only [Bool.and_eq_true, decide_eq_true_eq, bs_size] at h
  obtain ⟨⟨⟨⟨h1, h2⟩, h3⟩, _⟩, h5⟩ := h
  cases s with
  | nil => simp at h1
  | cons c r =>
    simp only [nameOk, Bool.and_eq_true, decide_eq_true_eq]
    exact ⟨⟨h3, h5⟩, h2⟩
theorem words_ok : (wordsL.all fun s => nameOk s.data.toList) = true := by decide
theorem inB_mem {l : List ByteArray} {s : List UInt8} (h : inB l (bs s) = true) : bs s ∈ l := by
  unfold inB at h
  obtain ⟨x, hx, he⟩ := List.any_eq_true.1 h
  rw [beq_iff_eq, bs_list, ByteArray.toList_eq] at he
  have hx2 : x = bs s := by rw [← bs_of x, he]
  rw [← hx2]
  exact hx
theorem word_ok {s : List UInt8} (h : inB wordsL (bs s) = true) : nameOk s = true := by
  have := List.all_eq_true.1 words_ok _ (inB_mem h)
  simpa using this
theorem nameOk_tok {w : List UInt8} (h : nameOk w = true) : (∃ c r, w = c :: r ∧ c.toNat ≠ 10 ∧ c.toNat ≠ 32 ∧ c.toNat ≠ 9 ∧ c.toNat ≠ 13 ∧ c.toNat ≠ 35) ∧ ∀ X, tok (w ++ 32 :: X) = some ((1, w, 0), 32 :: X) := by
  cases w with
  | nil => simp [nameOk] at h
  | cons c r =>
    simp only [nameOk, Bool.and_eq_true, decide_eq_true_eq] at h
    obtain ⟨⟨h1, h2⟩, h3⟩ := h
    exact ⟨⟨c, r, rfl, letter_start h1⟩, fun X => tok_name h1 (List.all_eq_true.1 h2) h3⟩
theorem digits_tok {w : List UInt8} (h1 : w ≠ []) (h2 : ∀ c ∈ w, digitB c.toNat = true) (h3 : valL w < 2 ^ 63) : (∃ c r, w = c :: r ∧ c.toNat ≠ 10 ∧ c.toNat ≠ 32 ∧ c.toNat ≠ 9 ∧ c.toNat ≠ 13 ∧ c.toNat ≠ 35) ∧ ∀ X, tok (w ++ 32 :: X) = some ((2, [], valL w), 32 :: X) := by
  cases w with
  | nil => exact absurd rfl h1
  | cons c r =>
    have := digit_le (h2 c (by simp))
    exact ⟨⟨c, r, rfl, by omega⟩, fun X => tok_number h2 h3⟩
theorem sign_tok {w : List UInt8} (h : w ∈ signsL) : (∃ c r, w = c :: r ∧ c.toNat ≠ 10 ∧ c.toNat ≠ 32 ∧ c.toNat ≠ 9 ∧ c.toNat ≠ 13 ∧ c.toNat ≠ 35) ∧ ∀ X, tok (w ++ 32 :: X) = some ((3, w, 0), 32 :: X) := by
  cases w with
  | nil => exact absurd rfl (signs_ne _ h)
  | cons c r => exact ⟨⟨c, r, rfl, (sign_closed h).2.2.2.2⟩, fun X => tok_sign h⟩

abbrev signsB : List ByteArray := signsL.map bs
theorem signsB_mem {w : List UInt8} (h : inB signsB (bs w) = true) : w ∈ signsL := by
  have := inB_mem h
  obtain ⟨m, hm, he⟩ := List.mem_map.1 this
  have : m = w := by
    have := congrArg (fun s : ByteArray => s.data.toList) he
    simpa using this
  rwa [← this]

theorem IsOut.reads {h : Heap} {lo : Nat} {x : V} {ts : List (Tk × Nat)} (hi : IsOut h lo x ts) : ReadsT h x (rows ts) := by
  rcases hi with ⟨rfl, rfl⟩ | ⟨r, e, rfl, h2, h3, h4⟩
  · exact ⟨rfl, fun i hi => by simp at hi⟩
  · refine ⟨by simp [slcLen], fun i hi => ⟨.rptr r e i 0, ?_, ?_⟩⟩
    · have hit : i < ts.length := by simpa using hi
      simp only [indexV, rowAt, h2, if_true, hit, List.length_map, Nat.zero_add, Nat.le_refl, and_self]
    · have hit : i < ts.length := by simpa using hi
      have hr : (rows ts)[i] = rowOf ts[i].1 ts[i].2 := by simp [rows]
      simp only [loadV, rowAt, h2, if_true, List.getElem?_eq_getElem hi, Option.bind_some, hr]
      rfl

theorem awake_scan : scanV [97, 60, 60, 61, 51] = .tup [.slc .any 4 (rows [((1, [97], 0), 1), ((3, [60, 60], 0), 1), ((3, [61], 0), 1), ((2, [], 3), 1)]), V.int 0, V.int 0] := by
  have h : scanA [97, 60, 60, 61, 51] 1 [] = .ok [((1, [97], 0), 1), ((3, [60, 60], 0), 1), ((3, [61], 0), 1), ((2, [], 3), 1)] := by
    rw [scanA_some (t := (1, [97], 0)) (rest := [60, 60, 61, 51]) (by decide)]
    show scanA [60, 60, 61, 51] 1 [((1, [97], 0), 1)] = _
    rw [scanA_some (t := (3, [60, 60], 0)) (rest := [61, 51]) (by decide)]
    show scanA [61, 51] 1 [((1, [97], 0), 1), ((3, [60, 60], 0), 1)] = _
    rw [scanA_some (t := (3, [61], 0)) (rest := [51]) (by decide)]
    show scanA [51] 1 [((1, [97], 0), 1), ((3, [60, 60], 0), 1), ((3, [61], 0), 1)] = _
    rw [scanA_some (t := (2, [], 3)) (rest := []) (by decide)]
    show scanA [] 1 [((1, [97], 0), 1), ((3, [60, 60], 0), 1), ((3, [61], 0), 1), ((2, [], 3), 1)] = _
    exact scanA_nil _ _
  unfold scanV
  rw [if_neg (by decide)]
  show (match scanA [97, 60, 60, 61, 51] 1 [] with | .ok ts => _ | .error n => _) = _
  rw [h]
  rfl

theorem awake_any {base : Nat} (h : Heap) : WpF S0 base k_spinnakerlaw22_awake [] h fun v h' => v = .bool true ∧ h' = h := by
  refine WpF_pure (A := f_spinnakerlaw22_awake) rfl rfl rfl rfl ?_
  simp only [f_spinnakerlaw22_awake]
  have hs : ∀ base h, WpF S0 base k_lex_Scan [.slc .lit 1 [bv 97, bv 60, bv 60, bv 61, bv 51]] h fun v h' => v = .tup [.slc .any 4 (rows [((1, [97], 0), 1), ((3, [60, 60], 0), 1), ((3, [61], 0), 1), ((2, [], 3), 1)]), V.int 0, V.int 0] ∧ h' = h := fun base h => by
    rw [← awake_scan]
    exact scan_r .lit [97, 60, 60, 61, 51] h
  have hfil : fillRows 1 (List.replicate 5 [(.sc (.int .u8 (0)))]) [(0, ((.sc (.int .u8 (97))))), (1, ((.sc (.int .u8 (60))))), (2, ((.sc (.int .u8 (60))))), (3, ((.sc (.int .u8 (61))))), (4, ((.sc (.int .u8 (51)))))] = some [bv 97, bv 60, bv 60, bv 61, bv 51] := rfl
  have hgr : ([bv 97, bv 60, bv 60, bv 61, bv 51].all fun r => r.all ground) = true := rfl
  have e2 : ((⟨#[60, 60]⟩ : ByteArray).toList == (⟨#[60, 60]⟩ : ByteArray).toList) = true := beq_self_eq_true _
  have r1 : (rows [((1, [97], 0), 1), ((3, [60, 60], 0), 1), ((3, [61], 0), 1), ((2, [], 3), 1)])[1]? = some (rowOf (3, [60, 60], 0) 1) := rfl
  have r3 : (rows [((1, [97], 0), 1), ((3, [60, 60], 0), 1), ((3, [61], 0), 1), ((2, [], 3), 1)])[3]? = some (rowOf (2, [], 3) 1) := rfl
  have rl : ((rows [((1, [97], 0), 1), ((3, [60, 60], 0), 1), ((3, [61], 0), 1), ((2, [], 3), 1)]).length) = 4 := rfl
  simp only [WpC_skip, WpC_ret, WpC_exit, WpC_region, WpC_seqD, WpC_block, WpC_condD, thenC_normal, thenC_ret, thenC_exit, thenQ_normal, thenQ_ret, thenQ_exit, condQ_true, condQ_false, condQ_bool, opQ_some, opQ_none, guardQ_tt, guardQ_tf, guardQ_ft, guardQ_ff, guardQ_no, blockQ_normal, blockQ_ret, blockQ_exit, endP_ret, endP_normal, endI_ret, endI_normal, resQ_some, Frz_sci, Frz_slci, FrzL_nili, FrzL_consi, Frz_tupi, Frz_aggi, Frz_ifci, oneCell, WpO_keep1, offV_ptr, offV_nil, blkNe_ptr, blkNe_sc, blkNe_slc, blkNe_eptr, blkNe_agg, blkNe_hsl, AOp.opds, Nat.reduceAdd, WpO_opD, WpO_nil, WpO_callD, WpO_guardD, step, Opd.get, put_app, put_none, ne_eq, reduceCtorEq, not_false_eq_true, not_true_eq_false, implies_true, slcLen, Option.map_some, Option.map_none, Option.bind_some, Option.bind_none, bin, binInt, reduceIte, Nat.reduceEqDiff, List.getD_cons_zero, List.getD_cons_succ, IntKind.signed, indexV, asNat?, loadV, cutCells, unary, evRess, evRes1, oneOrTup, wrapV, target, getsO, List.nil_append, List.append_nil, List.cons_append, Bool.false_eq_true, Bool.true_eq_false, decide_eq_true_eq, Bool.not_eq_true', decide_eq_false_iff_not, Bool.not_true, Bool.not_false, List.take_length, and_true, true_and, Int.ofNat_lt, Int.ofNat_le, Int.natCast_nonneg, Int.toNat_natCast, ge_iff_le, gt_iff_lt, if_true, if_false, List.length_map, decide_true, decide_false, int_beq, int_bne, bne_iff_ne, beq_iff_eq, Int.natCast_inj, Bool.and_eq_true, decide_not, Decidable.not_not, boundO, sliceV, exTo, Nat.zero_le, Nat.le_refl, Bool.or_true, beq_self_eq_true, Option.getD_some, Option.getD_none, List.drop_zero, Nat.sub_zero, and_self, or_true, true_or, or_self, false_or, or_false, and_false, false_and, Cp.isFull, isNil, moveV, Nat.add_zero, Nat.zero_add, Int.reduceLE, Int.reduceLT, Int.reduceEq, Int.reduceBEq, Int.reduceGT, Int.reduceGE, Nat.reduceLT, Nat.reduceLeDiff, getParts2, hfil, hgr, callD_ret (hs _ _), List.getElem?_cons_zero, List.getElem?_cons_succ, r1, r3, rl, Int.toNat_one, Int.cast_ofNat_Int, Int.reduceToNat, binStr, e2]

/-! ### The law -/
set_option maxRecDepth 100000 in
set_option maxHeartbeats 2000000 in
theorem lexBack_law (ex : Cp) (l : List ArgT) (hin0 : ∀ t ∈ l, t.2.2.1 < 9223372036854775808) : WpF S0 0 k_spinnakerlaw22_LexBack [.slc ex 4 (l.map argRow)] [] fun v _ => v = .bool true := by
  refine WpF_pure (A := f_spinnakerlaw22_LexBack) rfl rfl rfl rfl ?_
  simp only [f_spinnakerlaw22_LexBack]
  by_cases h200 : 200 < l.length
  · have h200' : (200 : Int) < l.length := by omega
    simp only [WpC_skip, WpC_ret, WpC_exit, WpC_region, WpC_seqD, WpC_block, WpC_condD, thenC_normal, thenC_ret, thenC_exit, thenQ_normal, thenQ_ret, thenQ_exit, condQ_true, condQ_false, condQ_bool, opQ_some, opQ_none, guardQ_tt, guardQ_tf, guardQ_ft, guardQ_ff, guardQ_no, blockQ_normal, blockQ_ret, blockQ_exit, endP_ret, endP_normal, endI_ret, endI_normal, resQ_some, Frz_sci, Frz_slci, FrzL_nili, FrzL_consi, Frz_tupi, Frz_aggi, Frz_ifci, oneCell, WpO_keep1, offV_ptr, offV_nil, blkNe_ptr, blkNe_sc, blkNe_slc, blkNe_eptr, blkNe_agg, blkNe_hsl, AOp.opds, Nat.reduceAdd, WpO_opD, WpO_nil, WpO_callD, WpO_guardD, step, Opd.get, put_app, put_none, ne_eq, reduceCtorEq, not_false_eq_true, not_true_eq_false, implies_true, slcLen, Option.map_some, Option.map_none, Option.bind_some, Option.bind_none, bin, binInt, reduceIte, Nat.reduceEqDiff, List.getD_cons_zero, List.getD_cons_succ, IntKind.signed, indexV, asNat?, loadV, cutCells, unary, evRess, evRes1, oneOrTup, wrapV, target, getsO, List.nil_append, List.append_nil, List.cons_append, Bool.false_eq_true, Bool.true_eq_false, decide_eq_true_eq, Bool.not_eq_true', decide_eq_false_iff_not, Bool.not_true, Bool.not_false, List.take_length, and_true, true_and, Int.ofNat_lt, Int.ofNat_le, Int.natCast_nonneg, Int.toNat_natCast, ge_iff_le, gt_iff_lt, if_true, if_false, List.length_map, decide_true, decide_false, int_beq, int_bne, bne_iff_ne, beq_iff_eq, Int.natCast_inj, Bool.and_eq_true, decide_not, Decidable.not_not, boundO, sliceV, exTo, Nat.zero_le, Nat.le_refl, Bool.or_true, beq_self_eq_true, Option.getD_some, Option.getD_none, List.drop_zero, Nat.sub_zero, and_self, or_true, true_or, or_self, false_or, or_false, and_false, false_and, Cp.isFull, isNil, moveV, Nat.add_zero, Nat.zero_add, Int.reduceLE, Int.reduceLT, Int.reduceEq, Int.reduceBEq, Int.reduceGT, Int.reduceGE, Nat.reduceLT, Nat.reduceLeDiff, h200', callD_ret (awake_any _)]
  have h200' : ¬ (200 : Int) < l.length := by omega
  simp only [WpC_skip, WpC_ret, WpC_exit, WpC_region, WpC_seqD, WpC_block, WpC_condD, thenC_normal, thenC_ret, thenC_exit, thenQ_normal, thenQ_ret, thenQ_exit, condQ_true, condQ_false, condQ_bool, opQ_some, opQ_none, guardQ_tt, guardQ_tf, guardQ_ft, guardQ_ff, guardQ_no, blockQ_normal, blockQ_ret, blockQ_exit, endP_ret, endP_normal, endI_ret, endI_normal, resQ_some, Frz_sci, Frz_slci, FrzL_nili, FrzL_consi, Frz_tupi, Frz_aggi, Frz_ifci, oneCell, WpO_keep1, offV_ptr, offV_nil, blkNe_ptr, blkNe_sc, blkNe_slc, blkNe_eptr, blkNe_agg, blkNe_hsl, AOp.opds, Nat.reduceAdd, WpO_opD, WpO_nil, WpO_callD, WpO_guardD, step, Opd.get, put_app, put_none, ne_eq, reduceCtorEq, not_false_eq_true, not_true_eq_false, implies_true, slcLen, Option.map_some, Option.map_none, Option.bind_some, Option.bind_none, bin, binInt, reduceIte, Nat.reduceEqDiff, List.getD_cons_zero, List.getD_cons_succ, IntKind.signed, indexV, asNat?, loadV, cutCells, unary, evRess, evRes1, oneOrTup, wrapV, target, getsO, List.nil_append, List.append_nil, List.cons_append, Bool.false_eq_true, Bool.true_eq_false, decide_eq_true_eq, Bool.not_eq_true', decide_eq_false_iff_not, Bool.not_true, Bool.not_false, List.take_length, and_true, true_and, Int.ofNat_lt, Int.ofNat_le, Int.natCast_nonneg, Int.toNat_natCast, ge_iff_le, gt_iff_lt, if_true, if_false, List.length_map, decide_true, decide_false, int_beq, int_bne, bne_iff_ne, beq_iff_eq, Int.natCast_inj, Bool.and_eq_true, decide_not, Decidable.not_not, boundO, sliceV, exTo, Nat.zero_le, Nat.le_refl, Bool.or_true, beq_self_eq_true, Option.getD_some, Option.getD_none, List.drop_zero, Nat.sub_zero, and_self, or_true, true_or, or_self, false_or, or_false, and_false, false_and, Cp.isFull, isNil, moveV, Nat.add_zero, Nat.zero_add, Int.reduceLE, Int.reduceLT, Int.reduceEq, Int.reduceBEq, Int.reduceGT, Int.reduceGE, Nat.reduceLT, Nat.reduceLeDiff, h200']
  refine WpC_loopI (fun k en h' => ∃ (i line : Nat) (T : List UInt8) (ts : List (Tk × Nat)), k = l.length - i ∧ i ≤ l.length ∧ en 6 = V.int i ∧ en 4 = V.int line ∧ en 3 = .sc (.string (bs T)) ∧ en 0 = .slc ex 4 (l.map argRow) ∧ IsOut h' 0 (en 5) ts ∧ GoodT T line ts ∧ T.length ≤ 37 * i ∧ line ≤ i + 1 ∧ ts.length ≤ i) l.length ⟨0, 1, [], [], rfl, Nat.zero_le _, rfl, rfl, rfl, rfl, .inl ⟨rfl, rfl⟩, GoodT.nil, Nat.zero_le _, by omega, Nat.zero_le _⟩ ?_
  rintro k en h' ⟨i, line, T, ts, rfl, hi, e6, e4, e3, e0, ho, hg, hT, hline, hts⟩
  by_cases h1 : i < l.length
  · have hga : (l.map argRow)[i]? = some (argRow l[i]) := by simp [List.getElem?_map, h1]
    have hlt := hin0 _ (List.getElem_mem h1)
    generalize l[i] = a at hga hlt
    obtain ⟨k, s, n, ln⟩ := a
    simp only at hlt
    have hsm : (signsL.map fun m => sv (bs m)) = signsB.map sv := by simp [signsB]
    have hfb : ∀ x : Int, fillParts Zc [(0, 1, .sc (.int .i64 x)), (3, 1, V.int line)] = some [.sc (.int .i64 x), .sc (.string ⟨#[]⟩), .sc (.int .i64 (0)), V.int line] := fun _ => rfl
    have hl4 : Zc.length = 4 := rfl
    have wi : IntKind.wrap .i64 ((i : Int) + 1) = ((i + 1 : Nat) : Int) := by rw [wrap_i64 (by omega) (by omega)]; rfl
    have wl : IntKind.wrap .i64 ((line : Int) + 1) = ((line + 1 : Nat) : Int) := by rw [wrap_i64 (by omega) (by omega)]; rfl
    have r3 : Int.tmod (i : Int) 3 = ((i % 3 : Nat) : Int) := by rw [show (3 : Int) = ((3 : Nat) : Int) from rfl, ← Int.ofNat_tmod]
    by_cases hk1 : k = 1
    · subst hk1
      by_cases h32 : s.length ≤ 32
      · have h32' : ((s.length : Nat) : Int) ≤ 32 := by omega
        cases hn : nameB (bs s)
        · cases hw : inB wordsL (bs s)
          · simp only [WpC_skip, WpC_ret, WpC_exit, WpC_region, WpC_seqD, WpC_block, WpC_condD, thenC_normal, thenC_ret, thenC_exit, thenQ_normal, thenQ_ret, thenQ_exit, condQ_true, condQ_false, condQ_bool, opQ_some, opQ_none, guardQ_tt, guardQ_tf, guardQ_ft, guardQ_ff, guardQ_no, blockQ_normal, blockQ_ret, blockQ_exit, endP_ret, endP_normal, endI_ret, endI_normal, resQ_some, Frz_sci, Frz_slci, FrzL_nili, FrzL_consi, Frz_tupi, Frz_aggi, Frz_ifci, oneCell, WpO_keep1, offV_ptr, offV_nil, blkNe_ptr, blkNe_sc, blkNe_slc, blkNe_eptr, blkNe_agg, blkNe_hsl, AOp.opds, Nat.reduceAdd, WpO_opD, WpO_nil, WpO_callD, WpO_guardD, step, Opd.get, put_app, put_none, ne_eq, reduceCtorEq, not_false_eq_true, not_true_eq_false, implies_true, slcLen, Option.map_some, Option.map_none, Option.bind_some, Option.bind_none, bin, binInt, reduceIte, Nat.reduceEqDiff, List.getD_cons_zero, List.getD_cons_succ, IntKind.signed, indexV, asNat?, loadV, cutCells, unary, evRess, evRes1, oneOrTup, wrapV, target, getsO, List.nil_append, List.append_nil, List.cons_append, Bool.false_eq_true, Bool.true_eq_false, decide_eq_true_eq, Bool.not_eq_true', decide_eq_false_iff_not, Bool.not_true, Bool.not_false, List.take_length, and_true, true_and, Int.ofNat_lt, Int.ofNat_le, Int.natCast_nonneg, Int.toNat_natCast, ge_iff_le, gt_iff_lt, if_true, if_false, List.length_map, decide_true, decide_false, int_beq, int_bne, bne_iff_ne, beq_iff_eq, Int.natCast_inj, Bool.and_eq_true, decide_not, Decidable.not_not, boundO, sliceV, exTo, Nat.zero_le, Nat.le_refl, Bool.or_true, beq_self_eq_true, Option.getD_some, Option.getD_none, List.drop_zero, Nat.sub_zero, and_self, or_true, true_or, or_self, false_or, or_false, and_false, false_and, Cp.isFull, isNil, moveV, Nat.add_zero, Nat.zero_add, Int.reduceLE, Int.reduceLT, Int.reduceEq, Int.reduceBEq, Int.reduceGT, Int.reduceGE, Nat.reduceLT, Nat.reduceLeDiff, e6, e4, e3, e0, h1, hga, List.getElem?_cons_zero, List.getElem?_cons_succ, getParts, hfb, st0a (hs := h') rfl, hl4, last_get, wi, h32', bs_size, callD_ret (refName_r _ _), callD_ret (words_r _), callD_ret (in_r wordsL _ _ _ (by decide)), hn, hw]
            exact ⟨l.length - (i + 1), by omega, i + 1, line, T, ts, rfl, by omega, rfl, rfl, rfl, ho.app _, hg, by omega, by omega, by omega⟩
          · obtain ⟨hst, htk⟩ := nameOk_tok (word_ok hw)
            obtain ⟨x', H2, ha, ho2, _, _⟩ := (ho.app [.box 36 (rowOf (1, s, 0) line)]).snoc (base := 0) (Nat.zero_le _) (by omega) (1, s, 0) line
            have ha' : appendV 0 (h' ++ [.box 36 [.sc (.int .i64 (1)), .sc (.string (bs s)), .sc (.int .i64 (0)), V.int line]]) 36 4 (en 5) [[.sc (.int .i64 (1)), .sc (.string (bs s)), .sc (.int .i64 (0)), V.int line]] = some (x', H2) := ha
            have hfr : fillRows 4 (List.replicate 1 Zc) [(0, .agg [.sc (.int .i64 (1)), .sc (.string (bs s)), .sc (.int .i64 (0)), V.int line])] = some [[.sc (.int .i64 (1)), .sc (.string (bs s)), .sc (.int .i64 (0)), V.int line]] := rfl
            have hgr : ([([.sc (.int .i64 (1)), .sc (.string (bs s)), .sc (.int .i64 (0)), V.int line] : List V)].all fun r => r.all ground) = true := rfl
            have hwl : s.length ≤ 32 := h32
            have z1 : T.length + s.length ≤ lim := by unfold lim; omega
            have z2 : T.length + s.length + 1 ≤ lim := by unfold lim; omega
            have z3 : T.length + s.length + 1 + 4 ≤ lim := by unfold lim; omega
            have hgw := hg.word hst htk
            by_cases h3 : i % 3 = 0
            · have h3' : ((i % 3 : Nat) : Int) = 0 := by omega
              simp only [WpC_skip, WpC_ret, WpC_exit, WpC_region, WpC_seqD, WpC_block, WpC_condD, thenC_normal, thenC_ret, thenC_exit, thenQ_normal, thenQ_ret, thenQ_exit, condQ_true, condQ_false, condQ_bool, opQ_some, opQ_none, guardQ_tt, guardQ_tf, guardQ_ft, guardQ_ff, guardQ_no, blockQ_normal, blockQ_ret, blockQ_exit, endP_ret, endP_normal, endI_ret, endI_normal, resQ_some, Frz_sci, Frz_slci, FrzL_nili, FrzL_consi, Frz_tupi, Frz_aggi, Frz_ifci, oneCell, WpO_keep1, offV_ptr, offV_nil, blkNe_ptr, blkNe_sc, blkNe_slc, blkNe_eptr, blkNe_agg, blkNe_hsl, AOp.opds, Nat.reduceAdd, WpO_opD, WpO_nil, WpO_callD, WpO_guardD, step, Opd.get, put_app, put_none, ne_eq, reduceCtorEq, not_false_eq_true, not_true_eq_false, implies_true, slcLen, Option.map_some, Option.map_none, Option.bind_some, Option.bind_none, bin, binInt, reduceIte, Nat.reduceEqDiff, List.getD_cons_zero, List.getD_cons_succ, IntKind.signed, indexV, asNat?, loadV, cutCells, unary, evRess, evRes1, oneOrTup, wrapV, target, getsO, List.nil_append, List.append_nil, List.cons_append, Bool.false_eq_true, Bool.true_eq_false, decide_eq_true_eq, Bool.not_eq_true', decide_eq_false_iff_not, Bool.not_true, Bool.not_false, List.take_length, and_true, true_and, Int.ofNat_lt, Int.ofNat_le, Int.natCast_nonneg, Int.toNat_natCast, ge_iff_le, gt_iff_lt, if_true, if_false, List.length_map, decide_true, decide_false, int_beq, int_bne, bne_iff_ne, beq_iff_eq, Int.natCast_inj, Bool.and_eq_true, decide_not, Decidable.not_not, boundO, sliceV, exTo, Nat.zero_le, Nat.le_refl, Bool.or_true, beq_self_eq_true, Option.getD_some, Option.getD_none, List.drop_zero, Nat.sub_zero, and_self, or_true, true_or, or_self, false_or, or_false, and_false, false_and, Cp.isFull, isNil, moveV, Nat.add_zero, Nat.zero_add, Int.reduceLE, Int.reduceLT, Int.reduceEq, Int.reduceBEq, Int.reduceGT, Int.reduceGE, Nat.reduceLT, Nat.reduceLeDiff, e6, e4, e3, e0, h1, hga, List.getElem?_cons_zero, List.getElem?_cons_succ, getParts, hfb, st0a (hs := h') rfl, hl4, last_get, wi, h32', bs_size, callD_ret (refName_r _ _), callD_ret (words_r _), callD_ret (in_r wordsL _ _ _ (by decide)), hn, hw, st0s (hs := h') rfl, List.set_cons_zero, List.set_cons_succ, List.length_cons, List.length_nil, take4, getParts2, hfr, hgr, srcRows, elems, ha', binStr, bs_size, bs_append, List.length_append, z1, z2, r3, h3', z3, wl]
              exact ⟨l.length - (i + 1), by omega, i + 1, line + 1, T ++ s ++ [32] ++ [35, 32, 98, 10], ts ++ [((1, s, 0), line)], rfl, by omega, rfl, rfl, rfl, ho2, hgw.comment, by simp only [List.length_append, List.length_cons, List.length_nil]; omega, by omega, by simp only [List.length_append, List.length_cons, List.length_nil]; omega⟩
            · have h3' : ¬ ((i % 3 : Nat) : Int) = 0 := by omega
              simp only [WpC_skip, WpC_ret, WpC_exit, WpC_region, WpC_seqD, WpC_block, WpC_condD, thenC_normal, thenC_ret, thenC_exit, thenQ_normal, thenQ_ret, thenQ_exit, condQ_true, condQ_false, condQ_bool, opQ_some, opQ_none, guardQ_tt, guardQ_tf, guardQ_ft, guardQ_ff, guardQ_no, blockQ_normal, blockQ_ret, blockQ_exit, endP_ret, endP_normal, endI_ret, endI_normal, resQ_some, Frz_sci, Frz_slci, FrzL_nili, FrzL_consi, Frz_tupi, Frz_aggi, Frz_ifci, oneCell, WpO_keep1, offV_ptr, offV_nil, blkNe_ptr, blkNe_sc, blkNe_slc, blkNe_eptr, blkNe_agg, blkNe_hsl, AOp.opds, Nat.reduceAdd, WpO_opD, WpO_nil, WpO_callD, WpO_guardD, step, Opd.get, put_app, put_none, ne_eq, reduceCtorEq, not_false_eq_true, not_true_eq_false, implies_true, slcLen, Option.map_some, Option.map_none, Option.bind_some, Option.bind_none, bin, binInt, reduceIte, Nat.reduceEqDiff, List.getD_cons_zero, List.getD_cons_succ, IntKind.signed, indexV, asNat?, loadV, cutCells, unary, evRess, evRes1, oneOrTup, wrapV, target, getsO, List.nil_append, List.append_nil, List.cons_append, Bool.false_eq_true, Bool.true_eq_false, decide_eq_true_eq, Bool.not_eq_true', decide_eq_false_iff_not, Bool.not_true, Bool.not_false, List.take_length, and_true, true_and, Int.ofNat_lt, Int.ofNat_le, Int.natCast_nonneg, Int.toNat_natCast, ge_iff_le, gt_iff_lt, if_true, if_false, List.length_map, decide_true, decide_false, int_beq, int_bne, bne_iff_ne, beq_iff_eq, Int.natCast_inj, Bool.and_eq_true, decide_not, Decidable.not_not, boundO, sliceV, exTo, Nat.zero_le, Nat.le_refl, Bool.or_true, beq_self_eq_true, Option.getD_some, Option.getD_none, List.drop_zero, Nat.sub_zero, and_self, or_true, true_or, or_self, false_or, or_false, and_false, false_and, Cp.isFull, isNil, moveV, Nat.add_zero, Nat.zero_add, Int.reduceLE, Int.reduceLT, Int.reduceEq, Int.reduceBEq, Int.reduceGT, Int.reduceGE, Nat.reduceLT, Nat.reduceLeDiff, e6, e4, e3, e0, h1, hga, List.getElem?_cons_zero, List.getElem?_cons_succ, getParts, hfb, st0a (hs := h') rfl, hl4, last_get, wi, h32', bs_size, callD_ret (refName_r _ _), callD_ret (words_r _), callD_ret (in_r wordsL _ _ _ (by decide)), hn, hw, st0s (hs := h') rfl, List.set_cons_zero, List.set_cons_succ, List.length_cons, List.length_nil, take4, getParts2, hfr, hgr, srcRows, elems, ha', binStr, bs_size, bs_append, List.length_append, z1, z2, r3, h3']
              exact ⟨l.length - (i + 1), by omega, i + 1, line, T ++ s ++ [32], ts ++ [((1, s, 0), line)], rfl, by omega, rfl, rfl, rfl, ho2, hgw, by simp only [List.length_append, List.length_cons, List.length_nil]; omega, by omega, by simp only [List.length_append, List.length_cons, List.length_nil]; omega⟩
        · obtain ⟨hst, htk⟩ := nameOk_tok (name_ok hn)
          obtain ⟨x', H2, ha, ho2, _, _⟩ := (ho.app [.box 36 (rowOf (1, s, 0) line)]).snoc (base := 0) (Nat.zero_le _) (by omega) (1, s, 0) line
          have ha' : appendV 0 (h' ++ [.box 36 [.sc (.int .i64 (1)), .sc (.string (bs s)), .sc (.int .i64 (0)), V.int line]]) 36 4 (en 5) [[.sc (.int .i64 (1)), .sc (.string (bs s)), .sc (.int .i64 (0)), V.int line]] = some (x', H2) := ha
          have hfr : fillRows 4 (List.replicate 1 Zc) [(0, .agg [.sc (.int .i64 (1)), .sc (.string (bs s)), .sc (.int .i64 (0)), V.int line])] = some [[.sc (.int .i64 (1)), .sc (.string (bs s)), .sc (.int .i64 (0)), V.int line]] := rfl
          have hgr : ([([.sc (.int .i64 (1)), .sc (.string (bs s)), .sc (.int .i64 (0)), V.int line] : List V)].all fun r => r.all ground) = true := rfl
          have hwl : s.length ≤ 32 := h32
          have z1 : T.length + s.length ≤ lim := by unfold lim; omega
          have z2 : T.length + s.length + 1 ≤ lim := by unfold lim; omega
          have z3 : T.length + s.length + 1 + 4 ≤ lim := by unfold lim; omega
          have hgw := hg.word hst htk
          by_cases h3 : i % 3 = 0
          · have h3' : ((i % 3 : Nat) : Int) = 0 := by omega
            simp only [WpC_skip, WpC_ret, WpC_exit, WpC_region, WpC_seqD, WpC_block, WpC_condD, thenC_normal, thenC_ret, thenC_exit, thenQ_normal, thenQ_ret, thenQ_exit, condQ_true, condQ_false, condQ_bool, opQ_some, opQ_none, guardQ_tt, guardQ_tf, guardQ_ft, guardQ_ff, guardQ_no, blockQ_normal, blockQ_ret, blockQ_exit, endP_ret, endP_normal, endI_ret, endI_normal, resQ_some, Frz_sci, Frz_slci, FrzL_nili, FrzL_consi, Frz_tupi, Frz_aggi, Frz_ifci, oneCell, WpO_keep1, offV_ptr, offV_nil, blkNe_ptr, blkNe_sc, blkNe_slc, blkNe_eptr, blkNe_agg, blkNe_hsl, AOp.opds, Nat.reduceAdd, WpO_opD, WpO_nil, WpO_callD, WpO_guardD, step, Opd.get, put_app, put_none, ne_eq, reduceCtorEq, not_false_eq_true, not_true_eq_false, implies_true, slcLen, Option.map_some, Option.map_none, Option.bind_some, Option.bind_none, bin, binInt, reduceIte, Nat.reduceEqDiff, List.getD_cons_zero, List.getD_cons_succ, IntKind.signed, indexV, asNat?, loadV, cutCells, unary, evRess, evRes1, oneOrTup, wrapV, target, getsO, List.nil_append, List.append_nil, List.cons_append, Bool.false_eq_true, Bool.true_eq_false, decide_eq_true_eq, Bool.not_eq_true', decide_eq_false_iff_not, Bool.not_true, Bool.not_false, List.take_length, and_true, true_and, Int.ofNat_lt, Int.ofNat_le, Int.natCast_nonneg, Int.toNat_natCast, ge_iff_le, gt_iff_lt, if_true, if_false, List.length_map, decide_true, decide_false, int_beq, int_bne, bne_iff_ne, beq_iff_eq, Int.natCast_inj, Bool.and_eq_true, decide_not, Decidable.not_not, boundO, sliceV, exTo, Nat.zero_le, Nat.le_refl, Bool.or_true, beq_self_eq_true, Option.getD_some, Option.getD_none, List.drop_zero, Nat.sub_zero, and_self, or_true, true_or, or_self, false_or, or_false, and_false, false_and, Cp.isFull, isNil, moveV, Nat.add_zero, Nat.zero_add, Int.reduceLE, Int.reduceLT, Int.reduceEq, Int.reduceBEq, Int.reduceGT, Int.reduceGE, Nat.reduceLT, Nat.reduceLeDiff, e6, e4, e3, e0, h1, hga, List.getElem?_cons_zero, List.getElem?_cons_succ, getParts, hfb, st0a (hs := h') rfl, hl4, last_get, wi, h32', bs_size, callD_ret (refName_r _ _), callD_ret (words_r _), callD_ret (in_r wordsL _ _ _ (by decide)), hn, st0s (hs := h') rfl, List.set_cons_zero, List.set_cons_succ, List.length_cons, List.length_nil, take4, getParts2, hfr, hgr, srcRows, elems, ha', binStr, bs_size, bs_append, List.length_append, z1, z2, r3, h3', z3, wl]
            exact ⟨l.length - (i + 1), by omega, i + 1, line + 1, T ++ s ++ [32] ++ [35, 32, 98, 10], ts ++ [((1, s, 0), line)], rfl, by omega, rfl, rfl, rfl, ho2, hgw.comment, by simp only [List.length_append, List.length_cons, List.length_nil]; omega, by omega, by simp only [List.length_append, List.length_cons, List.length_nil]; omega⟩
          · have h3' : ¬ ((i % 3 : Nat) : Int) = 0 := by omega
            simp only [WpC_skip, WpC_ret, WpC_exit, WpC_region, WpC_seqD, WpC_block, WpC_condD, thenC_normal, thenC_ret, thenC_exit, thenQ_normal, thenQ_ret, thenQ_exit, condQ_true, condQ_false, condQ_bool, opQ_some, opQ_none, guardQ_tt, guardQ_tf, guardQ_ft, guardQ_ff, guardQ_no, blockQ_normal, blockQ_ret, blockQ_exit, endP_ret, endP_normal, endI_ret, endI_normal, resQ_some, Frz_sci, Frz_slci, FrzL_nili, FrzL_consi, Frz_tupi, Frz_aggi, Frz_ifci, oneCell, WpO_keep1, offV_ptr, offV_nil, blkNe_ptr, blkNe_sc, blkNe_slc, blkNe_eptr, blkNe_agg, blkNe_hsl, AOp.opds, Nat.reduceAdd, WpO_opD, WpO_nil, WpO_callD, WpO_guardD, step, Opd.get, put_app, put_none, ne_eq, reduceCtorEq, not_false_eq_true, not_true_eq_false, implies_true, slcLen, Option.map_some, Option.map_none, Option.bind_some, Option.bind_none, bin, binInt, reduceIte, Nat.reduceEqDiff, List.getD_cons_zero, List.getD_cons_succ, IntKind.signed, indexV, asNat?, loadV, cutCells, unary, evRess, evRes1, oneOrTup, wrapV, target, getsO, List.nil_append, List.append_nil, List.cons_append, Bool.false_eq_true, Bool.true_eq_false, decide_eq_true_eq, Bool.not_eq_true', decide_eq_false_iff_not, Bool.not_true, Bool.not_false, List.take_length, and_true, true_and, Int.ofNat_lt, Int.ofNat_le, Int.natCast_nonneg, Int.toNat_natCast, ge_iff_le, gt_iff_lt, if_true, if_false, List.length_map, decide_true, decide_false, int_beq, int_bne, bne_iff_ne, beq_iff_eq, Int.natCast_inj, Bool.and_eq_true, decide_not, Decidable.not_not, boundO, sliceV, exTo, Nat.zero_le, Nat.le_refl, Bool.or_true, beq_self_eq_true, Option.getD_some, Option.getD_none, List.drop_zero, Nat.sub_zero, and_self, or_true, true_or, or_self, false_or, or_false, and_false, false_and, Cp.isFull, isNil, moveV, Nat.add_zero, Nat.zero_add, Int.reduceLE, Int.reduceLT, Int.reduceEq, Int.reduceBEq, Int.reduceGT, Int.reduceGE, Nat.reduceLT, Nat.reduceLeDiff, e6, e4, e3, e0, h1, hga, List.getElem?_cons_zero, List.getElem?_cons_succ, getParts, hfb, st0a (hs := h') rfl, hl4, last_get, wi, h32', bs_size, callD_ret (refName_r _ _), callD_ret (words_r _), callD_ret (in_r wordsL _ _ _ (by decide)), hn, st0s (hs := h') rfl, List.set_cons_zero, List.set_cons_succ, List.length_cons, List.length_nil, take4, getParts2, hfr, hgr, srcRows, elems, ha', binStr, bs_size, bs_append, List.length_append, z1, z2, r3, h3']
            exact ⟨l.length - (i + 1), by omega, i + 1, line, T ++ s ++ [32], ts ++ [((1, s, 0), line)], rfl, by omega, rfl, rfl, rfl, ho2, hgw, by simp only [List.length_append, List.length_cons, List.length_nil]; omega, by omega, by simp only [List.length_append, List.length_cons, List.length_nil]; omega⟩
      · have h32' : ¬ ((s.length : Nat) : Int) ≤ 32 := by omega
        simp only [WpC_skip, WpC_ret, WpC_exit, WpC_region, WpC_seqD, WpC_block, WpC_condD, thenC_normal, thenC_ret, thenC_exit, thenQ_normal, thenQ_ret, thenQ_exit, condQ_true, condQ_false, condQ_bool, opQ_some, opQ_none, guardQ_tt, guardQ_tf, guardQ_ft, guardQ_ff, guardQ_no, blockQ_normal, blockQ_ret, blockQ_exit, endP_ret, endP_normal, endI_ret, endI_normal, resQ_some, Frz_sci, Frz_slci, FrzL_nili, FrzL_consi, Frz_tupi, Frz_aggi, Frz_ifci, oneCell, WpO_keep1, offV_ptr, offV_nil, blkNe_ptr, blkNe_sc, blkNe_slc, blkNe_eptr, blkNe_agg, blkNe_hsl, AOp.opds, Nat.reduceAdd, WpO_opD, WpO_nil, WpO_callD, WpO_guardD, step, Opd.get, put_app, put_none, ne_eq, reduceCtorEq, not_false_eq_true, not_true_eq_false, implies_true, slcLen, Option.map_some, Option.map_none, Option.bind_some, Option.bind_none, bin, binInt, reduceIte, Nat.reduceEqDiff, List.getD_cons_zero, List.getD_cons_succ, IntKind.signed, indexV, asNat?, loadV, cutCells, unary, evRess, evRes1, oneOrTup, wrapV, target, getsO, List.nil_append, List.append_nil, List.cons_append, Bool.false_eq_true, Bool.true_eq_false, decide_eq_true_eq, Bool.not_eq_true', decide_eq_false_iff_not, Bool.not_true, Bool.not_false, List.take_length, and_true, true_and, Int.ofNat_lt, Int.ofNat_le, Int.natCast_nonneg, Int.toNat_natCast, ge_iff_le, gt_iff_lt, if_true, if_false, List.length_map, decide_true, decide_false, int_beq, int_bne, bne_iff_ne, beq_iff_eq, Int.natCast_inj, Bool.and_eq_true, decide_not, Decidable.not_not, boundO, sliceV, exTo, Nat.zero_le, Nat.le_refl, Bool.or_true, beq_self_eq_true, Option.getD_some, Option.getD_none, List.drop_zero, Nat.sub_zero, and_self, or_true, true_or, or_self, false_or, or_false, and_false, false_and, Cp.isFull, isNil, moveV, Nat.add_zero, Nat.zero_add, Int.reduceLE, Int.reduceLT, Int.reduceEq, Int.reduceBEq, Int.reduceGT, Int.reduceGE, Nat.reduceLT, Nat.reduceLeDiff, e6, e4, e3, e0, h1, hga, List.getElem?_cons_zero, List.getElem?_cons_succ, getParts, hfb, st0a (hs := h') rfl, hl4, last_get, wi, h32', bs_size]
        exact ⟨l.length - (i + 1), by omega, i + 1, line, T, ts, rfl, by omega, rfl, rfl, rfl, ho.app _, hg, by omega, by omega, by omega⟩
    by_cases hk2 : k = 2
    · subst hk2
      by_cases hn0 : 0 ≤ n
      · obtain ⟨m, rfl⟩ : ∃ m : Nat, n = m := ⟨n.toNat, by omega⟩
        obtain ⟨w, w1, w2, w3, w4, w5⟩ := digits_r (base := 0) m (h' ++ [.box 36 [.sc (.int .i64 (2)), .sc (.string ⟨#[]⟩), V.int m, V.int line]]) (by omega)
        obtain ⟨hst, htk⟩ := digits_tok w1 w3 (by rw [w4]; omega)
        obtain ⟨x', H2, ha, ho2, _, _⟩ := (ho.app [.box 36 (rowOf (2, [], m) line)]).snoc (base := 0) (Nat.zero_le _) (by omega) (2, [], m) line
        have ha' : appendV 0 (h' ++ [.box 36 [.sc (.int .i64 (2)), .sc (.string ⟨#[]⟩), .sc (.int .i64 (m : Int)), V.int line]]) 36 4 (en 5) [[.sc (.int .i64 (2)), .sc (.string ⟨#[]⟩), .sc (.int .i64 (m : Int)), V.int line]] = some (x', H2) := ha
        have hfr : fillRows 4 (List.replicate 1 Zc) [(0, .agg [.sc (.int .i64 (2)), .sc (.string ⟨#[]⟩), .sc (.int .i64 (m : Int)), V.int line])] = some [[.sc (.int .i64 (2)), .sc (.string ⟨#[]⟩), .sc (.int .i64 (m : Int)), V.int line]] := rfl
        have hgr : ([([.sc (.int .i64 (2)), .sc (.string ⟨#[]⟩), .sc (.int .i64 (m : Int)), V.int line] : List V)].all fun r => r.all ground) = true := rfl
        have hwl : w.length ≤ 32 := by omega
        have z1 : T.length + w.length ≤ lim := by unfold lim; omega
        have z2 : T.length + w.length + 1 ≤ lim := by unfold lim; omega
        have z3 : T.length + w.length + 1 + 4 ≤ lim := by unfold lim; omega
        rw [w4] at htk
        have hgw := hg.word hst htk
        by_cases h3 : i % 3 = 0
        · have h3' : ((i % 3 : Nat) : Int) = 0 := by omega
          simp only [WpC_skip, WpC_ret, WpC_exit, WpC_region, WpC_seqD, WpC_block, WpC_condD, thenC_normal, thenC_ret, thenC_exit, thenQ_normal, thenQ_ret, thenQ_exit, condQ_true, condQ_false, condQ_bool, opQ_some, opQ_none, guardQ_tt, guardQ_tf, guardQ_ft, guardQ_ff, guardQ_no, blockQ_normal, blockQ_ret, blockQ_exit, endP_ret, endP_normal, endI_ret, endI_normal, resQ_some, Frz_sci, Frz_slci, FrzL_nili, FrzL_consi, Frz_tupi, Frz_aggi, Frz_ifci, oneCell, WpO_keep1, offV_ptr, offV_nil, blkNe_ptr, blkNe_sc, blkNe_slc, blkNe_eptr, blkNe_agg, blkNe_hsl, AOp.opds, Nat.reduceAdd, WpO_opD, WpO_nil, WpO_callD, WpO_guardD, step, Opd.get, put_app, put_none, ne_eq, reduceCtorEq, not_false_eq_true, not_true_eq_false, implies_true, slcLen, Option.map_some, Option.map_none, Option.bind_some, Option.bind_none, bin, binInt, reduceIte, Nat.reduceEqDiff, List.getD_cons_zero, List.getD_cons_succ, IntKind.signed, indexV, asNat?, loadV, cutCells, unary, evRess, evRes1, oneOrTup, wrapV, target, getsO, List.nil_append, List.append_nil, List.cons_append, Bool.false_eq_true, Bool.true_eq_false, decide_eq_true_eq, Bool.not_eq_true', decide_eq_false_iff_not, Bool.not_true, Bool.not_false, List.take_length, and_true, true_and, Int.ofNat_lt, Int.ofNat_le, Int.natCast_nonneg, Int.toNat_natCast, ge_iff_le, gt_iff_lt, if_true, if_false, List.length_map, decide_true, decide_false, int_beq, int_bne, bne_iff_ne, beq_iff_eq, Int.natCast_inj, Bool.and_eq_true, decide_not, Decidable.not_not, boundO, sliceV, exTo, Nat.zero_le, Nat.le_refl, Bool.or_true, beq_self_eq_true, Option.getD_some, Option.getD_none, List.drop_zero, Nat.sub_zero, and_self, or_true, true_or, or_self, false_or, or_false, and_false, false_and, Cp.isFull, isNil, moveV, Nat.add_zero, Nat.zero_add, Int.reduceLE, Int.reduceLT, Int.reduceEq, Int.reduceBEq, Int.reduceGT, Int.reduceGE, Nat.reduceLT, Nat.reduceLeDiff, e6, e4, e3, e0, h1, hga, List.getElem?_cons_zero, List.getElem?_cons_succ, getParts, hfb, st0a (hs := h') rfl, hl4, last_get, wi, hn0, callD_ret (w5 _), st0s (hs := h') rfl, List.set_cons_zero, List.set_cons_succ, List.length_cons, List.length_nil, take4, getParts2, hfr, hgr, srcRows, elems, ha', binStr, bs_size, bs_append, List.length_append, z1, z2, r3, h3', z3, wl]
          exact ⟨l.length - (i + 1), by omega, i + 1, line + 1, T ++ w ++ [32] ++ [35, 32, 98, 10], ts ++ [((2, [], m), line)], rfl, by omega, rfl, rfl, rfl, ho2, hgw.comment, by simp only [List.length_append, List.length_cons, List.length_nil]; omega, by omega, by simp only [List.length_append, List.length_cons, List.length_nil]; omega⟩
        · have h3' : ¬ ((i % 3 : Nat) : Int) = 0 := by omega
          simp only [WpC_skip, WpC_ret, WpC_exit, WpC_region, WpC_seqD, WpC_block, WpC_condD, thenC_normal, thenC_ret, thenC_exit, thenQ_normal, thenQ_ret, thenQ_exit, condQ_true, condQ_false, condQ_bool, opQ_some, opQ_none, guardQ_tt, guardQ_tf, guardQ_ft, guardQ_ff, guardQ_no, blockQ_normal, blockQ_ret, blockQ_exit, endP_ret, endP_normal, endI_ret, endI_normal, resQ_some, Frz_sci, Frz_slci, FrzL_nili, FrzL_consi, Frz_tupi, Frz_aggi, Frz_ifci, oneCell, WpO_keep1, offV_ptr, offV_nil, blkNe_ptr, blkNe_sc, blkNe_slc, blkNe_eptr, blkNe_agg, blkNe_hsl, AOp.opds, Nat.reduceAdd, WpO_opD, WpO_nil, WpO_callD, WpO_guardD, step, Opd.get, put_app, put_none, ne_eq, reduceCtorEq, not_false_eq_true, not_true_eq_false, implies_true, slcLen, Option.map_some, Option.map_none, Option.bind_some, Option.bind_none, bin, binInt, reduceIte, Nat.reduceEqDiff, List.getD_cons_zero, List.getD_cons_succ, IntKind.signed, indexV, asNat?, loadV, cutCells, unary, evRess, evRes1, oneOrTup, wrapV, target, getsO, List.nil_append, List.append_nil, List.cons_append, Bool.false_eq_true, Bool.true_eq_false, decide_eq_true_eq, Bool.not_eq_true', decide_eq_false_iff_not, Bool.not_true, Bool.not_false, List.take_length, and_true, true_and, Int.ofNat_lt, Int.ofNat_le, Int.natCast_nonneg, Int.toNat_natCast, ge_iff_le, gt_iff_lt, if_true, if_false, List.length_map, decide_true, decide_false, int_beq, int_bne, bne_iff_ne, beq_iff_eq, Int.natCast_inj, Bool.and_eq_true, decide_not, Decidable.not_not, boundO, sliceV, exTo, Nat.zero_le, Nat.le_refl, Bool.or_true, beq_self_eq_true, Option.getD_some, Option.getD_none, List.drop_zero, Nat.sub_zero, and_self, or_true, true_or, or_self, false_or, or_false, and_false, false_and, Cp.isFull, isNil, moveV, Nat.add_zero, Nat.zero_add, Int.reduceLE, Int.reduceLT, Int.reduceEq, Int.reduceBEq, Int.reduceGT, Int.reduceGE, Nat.reduceLT, Nat.reduceLeDiff, e6, e4, e3, e0, h1, hga, List.getElem?_cons_zero, List.getElem?_cons_succ, getParts, hfb, st0a (hs := h') rfl, hl4, last_get, wi, hn0, callD_ret (w5 _), st0s (hs := h') rfl, List.set_cons_zero, List.set_cons_succ, List.length_cons, List.length_nil, take4, getParts2, hfr, hgr, srcRows, elems, ha', binStr, bs_size, bs_append, List.length_append, z1, z2, r3, h3']
          exact ⟨l.length - (i + 1), by omega, i + 1, line, T ++ w ++ [32], ts ++ [((2, [], m), line)], rfl, by omega, rfl, rfl, rfl, ho2, hgw, by simp only [List.length_append, List.length_cons, List.length_nil]; omega, by omega, by simp only [List.length_append, List.length_cons, List.length_nil]; omega⟩
      · simp only [WpC_skip, WpC_ret, WpC_exit, WpC_region, WpC_seqD, WpC_block, WpC_condD, thenC_normal, thenC_ret, thenC_exit, thenQ_normal, thenQ_ret, thenQ_exit, condQ_true, condQ_false, condQ_bool, opQ_some, opQ_none, guardQ_tt, guardQ_tf, guardQ_ft, guardQ_ff, guardQ_no, blockQ_normal, blockQ_ret, blockQ_exit, endP_ret, endP_normal, endI_ret, endI_normal, resQ_some, Frz_sci, Frz_slci, FrzL_nili, FrzL_consi, Frz_tupi, Frz_aggi, Frz_ifci, oneCell, WpO_keep1, offV_ptr, offV_nil, blkNe_ptr, blkNe_sc, blkNe_slc, blkNe_eptr, blkNe_agg, blkNe_hsl, AOp.opds, Nat.reduceAdd, WpO_opD, WpO_nil, WpO_callD, WpO_guardD, step, Opd.get, put_app, put_none, ne_eq, reduceCtorEq, not_false_eq_true, not_true_eq_false, implies_true, slcLen, Option.map_some, Option.map_none, Option.bind_some, Option.bind_none, bin, binInt, reduceIte, Nat.reduceEqDiff, List.getD_cons_zero, List.getD_cons_succ, IntKind.signed, indexV, asNat?, loadV, cutCells, unary, evRess, evRes1, oneOrTup, wrapV, target, getsO, List.nil_append, List.append_nil, List.cons_append, Bool.false_eq_true, Bool.true_eq_false, decide_eq_true_eq, Bool.not_eq_true', decide_eq_false_iff_not, Bool.not_true, Bool.not_false, List.take_length, and_true, true_and, Int.ofNat_lt, Int.ofNat_le, Int.natCast_nonneg, Int.toNat_natCast, ge_iff_le, gt_iff_lt, if_true, if_false, List.length_map, decide_true, decide_false, int_beq, int_bne, bne_iff_ne, beq_iff_eq, Int.natCast_inj, Bool.and_eq_true, decide_not, Decidable.not_not, boundO, sliceV, exTo, Nat.zero_le, Nat.le_refl, Bool.or_true, beq_self_eq_true, Option.getD_some, Option.getD_none, List.drop_zero, Nat.sub_zero, and_self, or_true, true_or, or_self, false_or, or_false, and_false, false_and, Cp.isFull, isNil, moveV, Nat.add_zero, Nat.zero_add, Int.reduceLE, Int.reduceLT, Int.reduceEq, Int.reduceBEq, Int.reduceGT, Int.reduceGE, Nat.reduceLT, Nat.reduceLeDiff, e6, e4, e3, e0, h1, hga, List.getElem?_cons_zero, List.getElem?_cons_succ, getParts, hfb, st0a (hs := h') rfl, hl4, last_get, wi, hn0]
        exact ⟨l.length - (i + 1), by omega, i + 1, line, T, ts, rfl, by omega, rfl, rfl, rfl, ho.app _, hg, by omega, by omega, by omega⟩
    by_cases hk3 : k = 3
    · subst hk3
      cases hsb : inB signsB (bs s)
      · simp only [WpC_skip, WpC_ret, WpC_exit, WpC_region, WpC_seqD, WpC_block, WpC_condD, thenC_normal, thenC_ret, thenC_exit, thenQ_normal, thenQ_ret, thenQ_exit, condQ_true, condQ_false, condQ_bool, opQ_some, opQ_none, guardQ_tt, guardQ_tf, guardQ_ft, guardQ_ff, guardQ_no, blockQ_normal, blockQ_ret, blockQ_exit, endP_ret, endP_normal, endI_ret, endI_normal, resQ_some, Frz_sci, Frz_slci, FrzL_nili, FrzL_consi, Frz_tupi, Frz_aggi, Frz_ifci, oneCell, WpO_keep1, offV_ptr, offV_nil, blkNe_ptr, blkNe_sc, blkNe_slc, blkNe_eptr, blkNe_agg, blkNe_hsl, AOp.opds, Nat.reduceAdd, WpO_opD, WpO_nil, WpO_callD, WpO_guardD, step, Opd.get, put_app, put_none, ne_eq, reduceCtorEq, not_false_eq_true, not_true_eq_false, implies_true, slcLen, Option.map_some, Option.map_none, Option.bind_some, Option.bind_none, bin, binInt, reduceIte, Nat.reduceEqDiff, List.getD_cons_zero, List.getD_cons_succ, IntKind.signed, indexV, asNat?, loadV, cutCells, unary, evRess, evRes1, oneOrTup, wrapV, target, getsO, List.nil_append, List.append_nil, List.cons_append, Bool.false_eq_true, Bool.true_eq_false, decide_eq_true_eq, Bool.not_eq_true', decide_eq_false_iff_not, Bool.not_true, Bool.not_false, List.take_length, and_true, true_and, Int.ofNat_lt, Int.ofNat_le, Int.natCast_nonneg, Int.toNat_natCast, ge_iff_le, gt_iff_lt, if_true, if_false, List.length_map, decide_true, decide_false, int_beq, int_bne, bne_iff_ne, beq_iff_eq, Int.natCast_inj, Bool.and_eq_true, decide_not, Decidable.not_not, boundO, sliceV, exTo, Nat.zero_le, Nat.le_refl, Bool.or_true, beq_self_eq_true, Option.getD_some, Option.getD_none, List.drop_zero, Nat.sub_zero, and_self, or_true, true_or, or_self, false_or, or_false, and_false, false_and, Cp.isFull, isNil, moveV, Nat.add_zero, Nat.zero_add, Int.reduceLE, Int.reduceLT, Int.reduceEq, Int.reduceBEq, Int.reduceGT, Int.reduceGE, Nat.reduceLT, Nat.reduceLeDiff, e6, e4, e3, e0, h1, hga, List.getElem?_cons_zero, List.getElem?_cons_succ, getParts, hfb, st0a (hs := h') rfl, hl4, last_get, wi, hsm, callD_ret (signs_r _), callD_ret (in_r signsB _ _ _ (by decide)), hsb]
        exact ⟨l.length - (i + 1), by omega, i + 1, line, T, ts, rfl, by omega, rfl, rfl, rfl, ho.app _, hg, by omega, by omega, by omega⟩
      · obtain ⟨hst, htk⟩ := sign_tok (signsB_mem hsb)
        obtain ⟨x', H2, ha, ho2, _, _⟩ := (ho.app [.box 36 (rowOf (3, s, 0) line)]).snoc (base := 0) (Nat.zero_le _) (by omega) (3, s, 0) line
        have ha' : appendV 0 (h' ++ [.box 36 [.sc (.int .i64 (3)), .sc (.string (bs s)), .sc (.int .i64 (0)), V.int line]]) 36 4 (en 5) [[.sc (.int .i64 (3)), .sc (.string (bs s)), .sc (.int .i64 (0)), V.int line]] = some (x', H2) := ha
        have hfr : fillRows 4 (List.replicate 1 Zc) [(0, .agg [.sc (.int .i64 (3)), .sc (.string (bs s)), .sc (.int .i64 (0)), V.int line])] = some [[.sc (.int .i64 (3)), .sc (.string (bs s)), .sc (.int .i64 (0)), V.int line]] := rfl
        have hgr : ([([.sc (.int .i64 (3)), .sc (.string (bs s)), .sc (.int .i64 (0)), V.int line] : List V)].all fun r => r.all ground) = true := rfl
        have hwl : s.length ≤ 32 := by have := signs_le _ (signsB_mem hsb); omega
        have z1 : T.length + s.length ≤ lim := by unfold lim; omega
        have z2 : T.length + s.length + 1 ≤ lim := by unfold lim; omega
        have z3 : T.length + s.length + 1 + 4 ≤ lim := by unfold lim; omega
        have hgw := hg.word hst htk
        by_cases h3 : i % 3 = 0
        · have h3' : ((i % 3 : Nat) : Int) = 0 := by omega
          simp only [WpC_skip, WpC_ret, WpC_exit, WpC_region, WpC_seqD, WpC_block, WpC_condD, thenC_normal, thenC_ret, thenC_exit, thenQ_normal, thenQ_ret, thenQ_exit, condQ_true, condQ_false, condQ_bool, opQ_some, opQ_none, guardQ_tt, guardQ_tf, guardQ_ft, guardQ_ff, guardQ_no, blockQ_normal, blockQ_ret, blockQ_exit, endP_ret, endP_normal, endI_ret, endI_normal, resQ_some, Frz_sci, Frz_slci, FrzL_nili, FrzL_consi, Frz_tupi, Frz_aggi, Frz_ifci, oneCell, WpO_keep1, offV_ptr, offV_nil, blkNe_ptr, blkNe_sc, blkNe_slc, blkNe_eptr, blkNe_agg, blkNe_hsl, AOp.opds, Nat.reduceAdd, WpO_opD, WpO_nil, WpO_callD, WpO_guardD, step, Opd.get, put_app, put_none, ne_eq, reduceCtorEq, not_false_eq_true, not_true_eq_false, implies_true, slcLen, Option.map_some, Option.map_none, Option.bind_some, Option.bind_none, bin, binInt, reduceIte, Nat.reduceEqDiff, List.getD_cons_zero, List.getD_cons_succ, IntKind.signed, indexV, asNat?, loadV, cutCells, unary, evRess, evRes1, oneOrTup, wrapV, target, getsO, List.nil_append, List.append_nil, List.cons_append, Bool.false_eq_true, Bool.true_eq_false, decide_eq_true_eq, Bool.not_eq_true', decide_eq_false_iff_not, Bool.not_true, Bool.not_false, List.take_length, and_true, true_and, Int.ofNat_lt, Int.ofNat_le, Int.natCast_nonneg, Int.toNat_natCast, ge_iff_le, gt_iff_lt, if_true, if_false, List.length_map, decide_true, decide_false, int_beq, int_bne, bne_iff_ne, beq_iff_eq, Int.natCast_inj, Bool.and_eq_true, decide_not, Decidable.not_not, boundO, sliceV, exTo, Nat.zero_le, Nat.le_refl, Bool.or_true, beq_self_eq_true, Option.getD_some, Option.getD_none, List.drop_zero, Nat.sub_zero, and_self, or_true, true_or, or_self, false_or, or_false, and_false, false_and, Cp.isFull, isNil, moveV, Nat.add_zero, Nat.zero_add, Int.reduceLE, Int.reduceLT, Int.reduceEq, Int.reduceBEq, Int.reduceGT, Int.reduceGE, Nat.reduceLT, Nat.reduceLeDiff, e6, e4, e3, e0, h1, hga, List.getElem?_cons_zero, List.getElem?_cons_succ, getParts, hfb, st0a (hs := h') rfl, hl4, last_get, wi, hsm, callD_ret (signs_r _), callD_ret (in_r signsB _ _ _ (by decide)), hsb, st0s (hs := h') rfl, List.set_cons_zero, List.set_cons_succ, List.length_cons, List.length_nil, take4, getParts2, hfr, hgr, srcRows, elems, ha', binStr, bs_size, bs_append, List.length_append, z1, z2, r3, h3', z3, wl]
          exact ⟨l.length - (i + 1), by omega, i + 1, line + 1, T ++ s ++ [32] ++ [35, 32, 98, 10], ts ++ [((3, s, 0), line)], rfl, by omega, rfl, rfl, rfl, ho2, hgw.comment, by simp only [List.length_append, List.length_cons, List.length_nil]; omega, by omega, by simp only [List.length_append, List.length_cons, List.length_nil]; omega⟩
        · have h3' : ¬ ((i % 3 : Nat) : Int) = 0 := by omega
          simp only [WpC_skip, WpC_ret, WpC_exit, WpC_region, WpC_seqD, WpC_block, WpC_condD, thenC_normal, thenC_ret, thenC_exit, thenQ_normal, thenQ_ret, thenQ_exit, condQ_true, condQ_false, condQ_bool, opQ_some, opQ_none, guardQ_tt, guardQ_tf, guardQ_ft, guardQ_ff, guardQ_no, blockQ_normal, blockQ_ret, blockQ_exit, endP_ret, endP_normal, endI_ret, endI_normal, resQ_some, Frz_sci, Frz_slci, FrzL_nili, FrzL_consi, Frz_tupi, Frz_aggi, Frz_ifci, oneCell, WpO_keep1, offV_ptr, offV_nil, blkNe_ptr, blkNe_sc, blkNe_slc, blkNe_eptr, blkNe_agg, blkNe_hsl, AOp.opds, Nat.reduceAdd, WpO_opD, WpO_nil, WpO_callD, WpO_guardD, step, Opd.get, put_app, put_none, ne_eq, reduceCtorEq, not_false_eq_true, not_true_eq_false, implies_true, slcLen, Option.map_some, Option.map_none, Option.bind_some, Option.bind_none, bin, binInt, reduceIte, Nat.reduceEqDiff, List.getD_cons_zero, List.getD_cons_succ, IntKind.signed, indexV, asNat?, loadV, cutCells, unary, evRess, evRes1, oneOrTup, wrapV, target, getsO, List.nil_append, List.append_nil, List.cons_append, Bool.false_eq_true, Bool.true_eq_false, decide_eq_true_eq, Bool.not_eq_true', decide_eq_false_iff_not, Bool.not_true, Bool.not_false, List.take_length, and_true, true_and, Int.ofNat_lt, Int.ofNat_le, Int.natCast_nonneg, Int.toNat_natCast, ge_iff_le, gt_iff_lt, if_true, if_false, List.length_map, decide_true, decide_false, int_beq, int_bne, bne_iff_ne, beq_iff_eq, Int.natCast_inj, Bool.and_eq_true, decide_not, Decidable.not_not, boundO, sliceV, exTo, Nat.zero_le, Nat.le_refl, Bool.or_true, beq_self_eq_true, Option.getD_some, Option.getD_none, List.drop_zero, Nat.sub_zero, and_self, or_true, true_or, or_self, false_or, or_false, and_false, false_and, Cp.isFull, isNil, moveV, Nat.add_zero, Nat.zero_add, Int.reduceLE, Int.reduceLT, Int.reduceEq, Int.reduceBEq, Int.reduceGT, Int.reduceGE, Nat.reduceLT, Nat.reduceLeDiff, e6, e4, e3, e0, h1, hga, List.getElem?_cons_zero, List.getElem?_cons_succ, getParts, hfb, st0a (hs := h') rfl, hl4, last_get, wi, hsm, callD_ret (signs_r _), callD_ret (in_r signsB _ _ _ (by decide)), hsb, st0s (hs := h') rfl, List.set_cons_zero, List.set_cons_succ, List.length_cons, List.length_nil, take4, getParts2, hfr, hgr, srcRows, elems, ha', binStr, bs_size, bs_append, List.length_append, z1, z2, r3, h3']
          exact ⟨l.length - (i + 1), by omega, i + 1, line, T ++ s ++ [32], ts ++ [((3, s, 0), line)], rfl, by omega, rfl, rfl, rfl, ho2, hgw, by simp only [List.length_append, List.length_cons, List.length_nil]; omega, by omega, by simp only [List.length_append, List.length_cons, List.length_nil]; omega⟩
    simp only [WpC_skip, WpC_ret, WpC_exit, WpC_region, WpC_seqD, WpC_block, WpC_condD, thenC_normal, thenC_ret, thenC_exit, thenQ_normal, thenQ_ret, thenQ_exit, condQ_true, condQ_false, condQ_bool, opQ_some, opQ_none, guardQ_tt, guardQ_tf, guardQ_ft, guardQ_ff, guardQ_no, blockQ_normal, blockQ_ret, blockQ_exit, endP_ret, endP_normal, endI_ret, endI_normal, resQ_some, Frz_sci, Frz_slci, FrzL_nili, FrzL_consi, Frz_tupi, Frz_aggi, Frz_ifci, oneCell, WpO_keep1, offV_ptr, offV_nil, blkNe_ptr, blkNe_sc, blkNe_slc, blkNe_eptr, blkNe_agg, blkNe_hsl, AOp.opds, Nat.reduceAdd, WpO_opD, WpO_nil, WpO_callD, WpO_guardD, step, Opd.get, put_app, put_none, ne_eq, reduceCtorEq, not_false_eq_true, not_true_eq_false, implies_true, slcLen, Option.map_some, Option.map_none, Option.bind_some, Option.bind_none, bin, binInt, reduceIte, Nat.reduceEqDiff, List.getD_cons_zero, List.getD_cons_succ, IntKind.signed, indexV, asNat?, loadV, cutCells, unary, evRess, evRes1, oneOrTup, wrapV, target, getsO, List.nil_append, List.append_nil, List.cons_append, Bool.false_eq_true, Bool.true_eq_false, decide_eq_true_eq, Bool.not_eq_true', decide_eq_false_iff_not, Bool.not_true, Bool.not_false, List.take_length, and_true, true_and, Int.ofNat_lt, Int.ofNat_le, Int.natCast_nonneg, Int.toNat_natCast, ge_iff_le, gt_iff_lt, if_true, if_false, List.length_map, decide_true, decide_false, int_beq, int_bne, bne_iff_ne, beq_iff_eq, Int.natCast_inj, Bool.and_eq_true, decide_not, Decidable.not_not, boundO, sliceV, exTo, Nat.zero_le, Nat.le_refl, Bool.or_true, beq_self_eq_true, Option.getD_some, Option.getD_none, List.drop_zero, Nat.sub_zero, and_self, or_true, true_or, or_self, false_or, or_false, and_false, false_and, Cp.isFull, isNil, moveV, Nat.add_zero, Nat.zero_add, Int.reduceLE, Int.reduceLT, Int.reduceEq, Int.reduceBEq, Int.reduceGT, Int.reduceGE, Nat.reduceLT, Nat.reduceLeDiff, e6, e4, e3, e0, h1, hga, List.getElem?_cons_zero, List.getElem?_cons_succ, getParts, hfb, st0a (hs := h') rfl, hl4, last_get, wi, hk1, hk2, hk3]
    exact ⟨l.length - (i + 1), by omega, i + 1, line, T, ts, rfl, by omega, rfl, rfl, rfl, ho.app _, hg, by omega, by omega, by omega⟩
  · have hil : i = l.length := by omega
    have hle : T.length ≤ lim := by unfold lim; omega
    have hA : scanB false T 1 [] = .ok ts := by
      have := hg []
      rw [List.append_nil] at this
      rw [this]
      exact scanA_nil _ _
    have hv : scanV T = .tup [outV ts, V.int 0, V.int 0] := by
      unfold scanV
      rw [if_neg (by omega)]
      show (match scanB false T 1 [] with | .ok ts => _ | .error n => _) = _
      rw [hA]
    have hs := fun base h => scan_r (base := base) .any T h
    rw [hv] at hs
    simp only [WpC_skip, WpC_ret, WpC_exit, WpC_region, WpC_seqD, WpC_block, WpC_condD, thenC_normal, thenC_ret, thenC_exit, thenQ_normal, thenQ_ret, thenQ_exit, condQ_true, condQ_false, condQ_bool, opQ_some, opQ_none, guardQ_tt, guardQ_tf, guardQ_ft, guardQ_ff, guardQ_no, blockQ_normal, blockQ_ret, blockQ_exit, endP_ret, endP_normal, endI_ret, endI_normal, resQ_some, Frz_sci, Frz_slci, FrzL_nili, FrzL_consi, Frz_tupi, Frz_aggi, Frz_ifci, oneCell, WpO_keep1, offV_ptr, offV_nil, blkNe_ptr, blkNe_sc, blkNe_slc, blkNe_eptr, blkNe_agg, blkNe_hsl, AOp.opds, Nat.reduceAdd, WpO_opD, WpO_nil, WpO_callD, WpO_guardD, step, Opd.get, put_app, put_none, ne_eq, reduceCtorEq, not_false_eq_true, not_true_eq_false, implies_true, slcLen, Option.map_some, Option.map_none, Option.bind_some, Option.bind_none, bin, binInt, reduceIte, Nat.reduceEqDiff, List.getD_cons_zero, List.getD_cons_succ, IntKind.signed, indexV, asNat?, loadV, cutCells, unary, evRess, evRes1, oneOrTup, wrapV, target, getsO, List.nil_append, List.append_nil, List.cons_append, Bool.false_eq_true, Bool.true_eq_false, decide_eq_true_eq, Bool.not_eq_true', decide_eq_false_iff_not, Bool.not_true, Bool.not_false, List.take_length, and_true, true_and, Int.ofNat_lt, Int.ofNat_le, Int.natCast_nonneg, Int.toNat_natCast, ge_iff_le, gt_iff_lt, if_true, if_false, List.length_map, decide_true, decide_false, int_beq, int_bne, bne_iff_ne, beq_iff_eq, Int.natCast_inj, Bool.and_eq_true, decide_not, Decidable.not_not, boundO, sliceV, exTo, Nat.zero_le, Nat.le_refl, Bool.or_true, beq_self_eq_true, Option.getD_some, Option.getD_none, List.drop_zero, Nat.sub_zero, and_self, or_true, true_or, or_self, false_or, or_false, and_false, false_and, Cp.isFull, isNil, moveV, Nat.add_zero, Nat.zero_add, Int.reduceLE, Int.reduceLT, Int.reduceEq, Int.reduceBEq, Int.reduceGT, Int.reduceGE, Nat.reduceLT, Nat.reduceLeDiff, e6, e4, e3, e0, h1, bs_size, hle, bs_out, callD_ret (hs _ _), List.getElem?_cons_zero, List.getElem?_cons_succ, callD_ret (same_r (reads_out _ ts) ho.reads (by omega)), callD_ret (awake_any _)]
end Go.Am
end
section
/- Am: arguments of one cell. -/
namespace Go.Am
section
variable {P : Program} {W : World} {r : Go.Reach} {base : Nat} {t : TypeId} {v : Value}
theorem cells_slice {e : TypeId} (ht : P.underlying t = some (.slice e)) (h : Value.okWide P W r base t v) : v.cells.toList = [v] := by
  unfold Value.okWide Cell.okWide Cell.ok at h
  simp only [ht] at h
  cases v <;> simp_all [Value.cells]
theorem cells_int {k : IntKind} (ht : P.underlying t = some (.int k)) (h : Value.okWide P W r base t v) : v.cells.toList = [v] := by
  unfold Value.okWide Cell.okWide Cell.ok at h
  simp only [ht] at h
  cases v <;> simp_all [Value.cells]
theorem cells_string (ht : P.underlying t = some .string) (h : Value.okWide P W r base t v) : v.cells.toList = [v] := by
  unfold Value.okWide Cell.okWide Cell.ok at h
  simp only [ht] at h
  cases v <;> simp_all [Value.cells]
end
end Go.Am
end
section
/- Am: arguments of any type of numbers, bools, texts, structs and slices, be it recursive, as they are read. -/
namespace Go.Am

/-- What the cells of a struct are, field for field. -/
def ShpF (P : Program) (S : TypeId → List V → Prop) : List Field → List V → Prop
  | [], vs => vs = []
  | f :: fs, vs => ∃ a b, vs = a ++ b ∧ a.length = P.cellsOf f.type ∧ S f.type a ∧ ShpF P S fs b

/-- What the cells of a value of a type are. -/
def Shp (P : Program) : Nat → TypeId → List V → Prop
  | 0, _, _ => False
  | n + 1, t, vs => match P.underlying t with
    | some (.int k) => ∃ m : Int, k.min ≤ m ∧ m ≤ k.max ∧ vs = [.sc (.int k m)]
    | some .bool => ∃ b, vs = [.sc (.bool b)]
    | some .string => ∃ s : ByteArray, s.size ≤ Go.maxLen ∧ vs = [.sc (.string s)]
    | some (.slice e) => ∃ rows : List (List V), vs = [.slc .any (P.cellsOf e) rows] ∧ rows.length ≤ Go.maxLen ∧ ∀ r ∈ rows, Shp P n e r
    | some (.struct fs) => ShpF P (Shp P n) fs.toList vs
    | _ => False

section
variable {P : Program} {n : Nat} {t : TypeId} {vs : List V}
theorem Shp.int {k : IntKind} (ht : P.underlying t = some (.int k)) (h : Shp P n t vs) : ∃ m : Int, k.min ≤ m ∧ m ≤ k.max ∧ vs = [.sc (.int k m)] := by
  cases n with
  | zero => exact h.elim
  | succ n => simpa only [Shp, ht] using h
theorem Shp.bool (ht : P.underlying t = some .bool) (h : Shp P n t vs) : ∃ b, vs = [.sc (.bool b)] := by
  cases n with
  | zero => exact h.elim
  | succ n => simpa only [Shp, ht] using h
theorem Shp.str (ht : P.underlying t = some .string) (h : Shp P n t vs) : ∃ s : ByteArray, s.size ≤ Go.maxLen ∧ vs = [.sc (.string s)] := by
  cases n with
  | zero => exact h.elim
  | succ n => simpa only [Shp, ht] using h
theorem Shp.slc {e : TypeId} (ht : P.underlying t = some (.slice e)) (h : Shp P n t vs) : ∃ (rows : List (List V)) (k : Nat), n = k + 1 ∧ vs = [.slc .any (P.cellsOf e) rows] ∧ rows.length ≤ Go.maxLen ∧ ∀ r ∈ rows, Shp P k e r := by
  cases n with
  | zero => exact h.elim
  | succ n =>
    simp only [Shp, ht] at h
    obtain ⟨rows, h1, h2, h3⟩ := h
    exact ⟨rows, n, rfl, h1, h2, h3⟩
theorem Shp.struct {fs : Array Field} (ht : P.underlying t = some (.struct fs)) (h : Shp P n t vs) : ∃ k, n = k + 1 ∧ ShpF P (Shp P k) fs.toList vs := by
  cases n with
  | zero => exact h.elim
  | succ n => exact ⟨n, rfl, by simpa only [Shp, ht] using h⟩
end

/-- Rows, all of one form. -/
theorem rows_map {α : Type} {f : α → List V} {Q : α → Prop} : ∀ {rows : List (List V)}, (∀ r ∈ rows, ∃ a, r = f a ∧ Q a) → ∃ l : List α, rows = l.map f ∧ ∀ a ∈ l, Q a
  | [], _ => ⟨[], rfl, by simp⟩
  | r :: rows, h => by
    obtain ⟨l, rfl, hl⟩ := rows_map (fun r hr => h r (List.mem_cons_of_mem _ hr))
    obtain ⟨a, rfl, ha⟩ := h r (List.mem_cons_self ..)
    exact ⟨a :: l, rfl, fun b hb => by
      rcases List.mem_cons.1 hb with rfl | hb
      · exact ha
      · exact hl b hb⟩

def fieldsAt (P : Program) (tys : List TypeId) : List Field → Nat → Option Nat
  | [], o => some o
  | f :: fs, o => if f.offset = o ∧ tys.contains f.type = true then fieldsAt P tys fs (o + P.cellsOf f.type) else none

/-- Are some types such ones, and all that they are made of among them? -/
def chkTy (P : Program) (tys : List TypeId) : Bool := tys.all fun t => match P.underlying t with
  | some (.int _) | some .bool | some .string => P.cellsOf t == 1
  | some (.slice e) => P.cellsOf t == 1 && tys.contains e && decide (0 < P.cellsOf e)
  | some (.struct fs) => fieldsAt P tys fs.toList 0 == some (P.cellsOf t)
  | _ => false

section
variable {H : Type} {enc : TypeId × Value → H} {P : Program} {W : World} {base : Nat} {spare : Nat → Bool} {held : Bool} {tys : List TypeId}

theorem fields_shp {n : Nat} (ih : ∀ t cs x, t ∈ tys → DataW.trod enc P W base spare held n t cs = some x → Reads W (Shp P n t) (P.cellsOf t) cs) :
    ∀ (fs : List Field) (o : Nat) (cs : List Value), (∀ f ∈ fs, ∃ y, DataW.trod enc P W base spare held n f.type ((cs.drop f.offset).take (P.cellsOf f.type)) = some y) → fieldsAt P tys fs o = some cs.length →
      ∃ vs, vs.length = cs.length - o ∧ o ≤ cs.length ∧ vs.all ground = true ∧ ShpF P (Shp P n) fs vs ∧ RepL (start W) vs (cs.drop o)
  | [], o, cs, _, ho => by
    simp only [fieldsAt, Option.some.injEq] at ho
    subst ho
    exact ⟨[], by simp, Nat.le_refl _, rfl, rfl, by simp [RepL]⟩
  | f :: fs, o, cs, hf, ho => by
    simp only [fieldsAt] at ho
    split at ho
    · rename_i hc
      obtain ⟨rfl, hm⟩ := hc
      obtain ⟨y, hy⟩ := hf f (by simp)
      obtain ⟨b, b1, b2, b3, b4, b5⟩ := fields_shp ih fs _ cs (fun g hg => hf g (by simp [hg])) ho
      obtain ⟨a, a1, a2, a3, a4⟩ := ih _ _ _ (by simpa using hm) hy
      refine ⟨a ++ b, by simp only [List.length_append]; omega, by omega, by simp [a2, b3], ⟨a, b, rfl, a1, a3, b4⟩, ?_⟩
      have := a4.append b5
      rwa [← List.drop_drop, List.take_append_drop] at this
    · simp at ho

/-- WHAT IS READ IS OF ITS SHAPE. -/
theorem trod_shp (hc : chkTy P tys = true) : ∀ (fuel : Nat) (t : TypeId) (cs : List Value) (x : DataW H × List MemPlace), t ∈ tys → DataW.trod enc P W base spare held fuel t cs = some x → Reads W (Shp P fuel t) (P.cellsOf t) cs
  | 0, t, cs, x, _, h => by simp [DataW.trod] at h
  | n + 1, t, cs, x, ht, h => by
    have hk := List.all_eq_true.1 hc t ht
    cases hu : P.underlying t with
    | none => rw [hu] at hk; simp at hk
    | some d =>
      rw [hu] at hk
      cases d with
      | int k =>
        simp only [beq_iff_eq] at hk
        obtain ⟨m, h1, h2, h3⟩ := trod_intV hu h
        exact ⟨[.sc (.int k m)], hk.symm, rfl, by simp only [Shp, hu]; exact ⟨m, h1, h2, rfl⟩, h3⟩
      | bool =>
        simp only [beq_iff_eq] at hk
        obtain ⟨b, rfl, _⟩ := DataW.trod_bool hu h
        exact ⟨[.sc (.bool b)], hk.symm, rfl, by simp only [Shp, hu]; exact ⟨b, rfl⟩, by simp [RepL, RepV, Value.oneCell']⟩
      | string =>
        simp only [beq_iff_eq] at hk
        obtain ⟨s, h1, h2⟩ := trod_strV hu h
        exact ⟨[.sc (.string s)], hk.symm, rfl, by simp only [Shp, hu]; exact ⟨s, h1, rfl⟩, h2⟩
      | slice e =>
        simp only [Bool.and_eq_true, beq_iff_eq, decide_eq_true_eq] at hk
        obtain ⟨⟨h1, h2⟩, h3⟩ := hk
        obtain ⟨rows, r1, r2, r3⟩ := trod_slcN (Good := Shp P n e) hu h3 (fun k cs y hkn hy _ => by
          obtain rfl : n = k := by omega
          exact trod_shp hc n e cs y (by simpa using h2) hy) h
        exact ⟨[.slc .any (P.cellsOf e) rows], h1.symm, rfl, by simp only [Shp, hu]; exact ⟨rows, rfl, r2, fun r hr => (r3 r hr).2⟩, r1⟩
      | struct fs =>
        simp only [beq_iff_eq] at hk
        obtain ⟨xs, m, hm, _, hl, hx, hf⟩ := DataW.trod_struct hu h
        obtain rfl : n = m := by omega
        obtain ⟨vs, v1, _, v2, v3, v4⟩ := fields_shp (trod_shp hc n) fs.toList 0 cs (fun f hf' => by
          obtain ⟨i, hi, rfl⟩ := List.getElem_of_mem hf'
          have hi' : i < fs.size := by simpa using hi
          have := hf i fs[i] (by simp [hi'])
          rw [List.getElem?_eq_getElem (by omega)] at this
          exact ⟨_, by simpa using this⟩) (by rw [hk, hl])
        exact ⟨vs, by omega, v2, by simp only [Shp, hu]; exact v3, by simpa using v4⟩
      | _ => simp at hk

/-- Two lists, one by one. -/
def Each {α β : Type} (R : α → β → Prop) : List α → List β → Prop
  | [], [] => True
  | a :: as, b :: bs => R a b ∧ Each R as bs
  | _, _ => False
/-- An argument. -/
def ArgShp (P : Program) (t : TypeId) (v : V) : Prop := ∃ n vs, Shp P n t vs ∧ match P.underlying t with
  | some (.struct _) => v = .agg vs
  | _ => vs = [v]

theorem args_shp (hc : chkTy P tys = true) {r : Go.Reach} {ob : Nat} : ∀ {ts : List TypeId} {vs : List Value} {ds : List (DataW H)} {ps : List MemPlace}, (∀ t ∈ ts, t ∈ tys) → DataW.TrodAll enc P W base spare held ts vs ds ps →
    (∀ (j : Nat) t v, ts[j]? = some t → vs[j]? = some v → Value.okWide P W r ob t v) → ∃ as : List V, RepL (start W) as vs ∧ Each (ArgShp P) ts as ∧ ds.length = ts.length
  | [], vs, ds, ps, _, h, _ => by
    obtain ⟨rfl, rfl, rfl⟩ := ChangeShapes.trodAll_nil h
    exact ⟨[], by simp [RepL], trivial, rfl⟩
  | t :: ts, vs, ds, ps, hin, h, hv => by
    obtain ⟨v, vs', d, ds', p, q, rfl, rfl, rfl, h0, h1⟩ := ChangeShapes.trodAll_cons h
    obtain ⟨as, a1, a2, a3⟩ := args_shp hc (fun t ht => hin t (by simp [ht])) h1 (fun j t' v' hj hv' => hv (j + 1) t' v' (by simpa using hj) (by simpa using hv'))
    obtain ⟨n, h0⟩ := h0
    obtain ⟨xs, x1, x2, x3, x4⟩ := trod_shp hc n t _ _ (hin t (by simp)) h0
    have k0 := hv 0 t v rfl rfl
    have hk := List.all_eq_true.1 hc t (hin t (by simp))
    cases hu : P.underlying t with
    | none => rw [hu] at hk; simp at hk
    | some e =>
      by_cases hst : ∃ fs, e = .struct fs
      · obtain ⟨fs, rfl⟩ := hst
        unfold Value.okWide at k0
        rw [hu] at k0
        obtain ⟨cs, rfl, _, _⟩ := k0
        refine ⟨.agg xs :: as, ?_, ⟨⟨n, xs, x3, by rw [hu]⟩, a2⟩, by simp [a3]⟩
        simp only [RepL, RepV]
        exact ⟨_, _, rfl, ⟨cs, rfl, x4⟩, a1⟩
      · rw [hu] at hk
        have h1c : P.cellsOf t = 1 := by
          cases e <;> simp_all
        obtain ⟨y, rfl⟩ : ∃ y, xs = [y] := by
          match xs, x1 with
          | [y], _ => exact ⟨y, rfl⟩
          | [], h => simp at h; omega
          | _ :: _ :: _, h => simp at h; omega
        have hcells : v.cells.toList = [v] := by
          unfold Value.okWide Cell.okWide Cell.ok at k0
          cases e <;> simp only [hu] at k0 <;> cases v <;> simp_all [Value.cells]
        rw [hcells] at x4
        refine ⟨y :: as, ?_, ⟨⟨n, [y], x3, ?_⟩, a2⟩, by simp [a3]⟩
        · have := RepL.append x4 a1
          simpa using this
        · rw [hu]
          cases e <;> first | rfl | exact absurd ⟨_, rfl⟩ hst
end
end Go.Am
end
