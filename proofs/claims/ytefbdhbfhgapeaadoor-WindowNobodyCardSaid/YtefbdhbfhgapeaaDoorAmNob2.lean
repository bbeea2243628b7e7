/- Am: the plain law of WindowNobody. -/
import Derived.Test.YtefbdhbfhgapeaaDoorAmNob1
set_option linter.unusedSimpArgs false
namespace Go.Am
section
variable (ra rb rc : List (List V))
abbrev H1 : Heap := [.box 25 (imC ra rb rc)]
abbrev H5 : Heap := [.box 25 (imC ra rb rc), .box 36 zeroE, .box 42 emptyW, .box 36 zeroE, .box 42 emptyW]
set_option maxRecDepth 100000 in
theorem awake1 (base : Nat) : evCall Xt Ft 120 base k_spinnakerlaw19_awake [] (H1 ra rb rc) = some (.sc (.bool true), H1 ra rb rc) := by kernel_rfl
set_option maxRecDepth 100000 in
theorem awake5 (base : Nat) : evCall Xt Ft 120 base k_spinnakerlaw19_awake [] (H5 ra rb rc) = some (.sc (.bool true), H5 ra rb rc) := by kernel_rfl

theorem windowNobody_law (i r : Int) : WpF S0 0 k_spinnakerlaw19_WindowNobody [imV ra rb rc, .sc (.int .i64 i), .sc (.int .i64 r)] [] fun v _ => v = .bool true := by
  refine WpF_pure (A := f_spinnakerlaw19_WindowNobody) rfl rfl rfl rfl ?_
  simp only [f_spinnakerlaw19_WindowNobody]
  have aw1 : ∀ base, WpF S0 base 5 [] (H1 ra rb rc) fun v h' => v = .bool true ∧ h' = H1 ra rb rc := fun base => ⟨120, _, _, awake1 ra rb rc base, rfl, rfl⟩
  have aw5 : ∀ base, WpF S0 base 5 [] (H5 ra rb rc) fun v h' => v = .bool true ∧ h' = H5 ra rb rc := fun base => ⟨120, _, _, awake5 ra rb rc base, rfl, rfl⟩
  have lrg : ∀ base, ∃ t, WpF S0 base 4 [imV ra rb rc] (H1 ra rb rc) fun v h' => v = .bool t ∧ h' = H1 ra rb rc := fun base =>
    let ⟨n, v, h', e, ⟨t, hv⟩, hh⟩ := large_r (base := base) ra rb rc (H1 ra rb rc)
    ⟨t, n, v, h', e, hv, hh⟩
  obtain ⟨t, hl⟩ := lrg 0
  have hz : ([i0, i0, i0, i0, i0, i0, b0, b0, i0, i0, b0, i0, i0, b0, b0, b0, i0, i0] : List V) = zeroE := rfl
  have he : (i0 :: i0 :: i0 :: i0 :: i0 :: i0 :: i0 :: i0 :: i0 :: i0 :: i0 :: i0 :: i0 :: i0 :: i0 :: i0 :: i0 :: i0 :: i0 :: i0 :: i0 :: i0 :: i0 :: i0 :: i0 :: i0 :: i0 :: i0 :: i0 :: i0 :: i0 :: i0 :: [.sc (.slice none 0 0)] : List V) = emptyW := rfl
  have hfz : fillParts zeroE [] = some zeroE := rfl
  have hfe : fillParts emptyW [] = some emptyW := rfl
  have hoe : emptyW.all oneCell = true := rfl
  have s1 : ∀ o : Obj, storeV 0 [o, .box 36 zeroE] 18 (.ptr 1 0) (.agg zeroE) = some [o, .box 36 zeroE] := fun o => rfl
  have s2 : ∀ a b c : Obj, storeV 0 [a, b, c, .box 36 zeroE] 18 (.ptr 3 0) (.agg zeroE) = some [a, b, c, .box 36 zeroE] := fun _ _ _ => rfl
  have c1 := fun base => reg_nil (base := base) i r (H1 ra rb rc)
  have c2 := fun base => retire_of (base := base) nilW (H1 ra rb rc) (at_nil 0 _)
  have c3 := fun base => retire_of (base := base) (.ptr 2 0) [.box 25 (imC ra rb rc), .box 36 zeroE, .box 42 emptyW] (at_empty 0 _ rfl)
  have c4 := fun base => can_of (base := base) nilW i [.box 25 (imC ra rb rc), .box 36 zeroE, .box 42 emptyW, .box 36 zeroE] (at_nil i _)
  have c5 := fun base => exec_nil (base := base) ra rb rc i [.box 25 (imC ra rb rc), .box 36 zeroE, .box 42 emptyW, .box 36 zeroE]
  have c6 := fun base => can_of (base := base) (.ptr 4 0) i (H5 ra rb rc) (at_empty i _ rfl)
  have c7 := fun base => same_r (base := base) [.box 25 (imC ra rb rc), .box 36 zeroE, .box 42 emptyW, .box 36 zeroE]
  cases t
  · simp only [WpC_skip, WpC_ret, WpC_exit, WpC_region, WpC_seqD, WpC_block, WpC_condD, thenC_normal, thenC_ret, thenC_exit, thenQ_normal, thenQ_ret, thenQ_exit, condQ_true, condQ_false, condQ_bool, opQ_some, opQ_none, guardQ_tt, guardQ_tf, guardQ_ft, guardQ_ff, guardQ_no, blockQ_normal, blockQ_ret, blockQ_exit, endP_ret, endP_normal, endI_ret, endI_normal, resQ_some, Frz_sci, Frz_slci, FrzL_nili, FrzL_consi, Frz_tupi, Frz_aggi, WpO_opD, WpO_nil, WpO_callD, WpO_guardD, step, Opd.get, put_app, put_none, ne_eq, reduceCtorEq, not_false_eq_true, not_true_eq_false, implies_true, slcLen, Option.map_some, Option.map_none, Option.bind_some, Option.bind_none, bin, binInt, reduceIte, Nat.reduceEqDiff, List.getD_cons_zero, List.getD_cons_succ, IntKind.signed, indexV, asNat?, loadV, cutCells, unary, evRess, evRes1, oneOrTup, wrapV, target, getsO, List.nil_append, List.append_nil, List.cons_append, Bool.false_eq_true, Bool.true_eq_false, decide_eq_true_eq, Bool.not_eq_true', decide_eq_false_iff_not, Bool.not_true, Bool.not_false, List.take_length, and_true, true_and, Int.ofNat_lt, Int.ofNat_le, Int.natCast_nonneg, Int.toNat_natCast, ge_iff_le, gt_iff_lt, if_true, if_false, List.length_map, decide_true, decide_false, int_beq, int_bne, bne_iff_ne, beq_iff_eq, Int.natCast_inj, Bool.and_eq_true, decide_not, Decidable.not_not, boundO, sliceV, exTo, Nat.zero_le, Nat.le_refl, Bool.or_true, beq_self_eq_true, Option.getD_some, Option.getD_none, List.drop_zero, Nat.sub_zero, and_self, or_true, true_or, or_self, false_or, or_false, and_false, false_and, Cp.isFull, isNil, moveV, Nat.add_zero, Nat.zero_add, Int.reduceLE, Int.reduceLT, Int.reduceEq, Int.reduceBEq, Int.reduceGT, Int.reduceGE, Nat.reduceLT, Nat.reduceLeDiff, V.cells, List.all_cons, List.all_nil, oneCell, Bool.and_true, Bool.and_self, List.length_nil, List.length_cons, List.getElem?_cons_zero, List.getElem?_cons_succ, List.take_succ_cons, List.take_zero, callD_ret hl, hz, he, getParts, hfz, hfe, hoe, s1, s2, callD_ret (c1 _), callD_ret (c2 _), callD_ret (c3 _), callD_ret (c4 _), callD_ret (c5 _), callD_ret (c6 _), callD_ret (c7 _), callD_ret (aw5 _), show zeroE.length = 18 from rfl, show zeroE.take 18 = zeroE from rfl]
  · simp only [WpC_skip, WpC_ret, WpC_exit, WpC_region, WpC_seqD, WpC_block, WpC_condD, thenC_normal, thenC_ret, thenC_exit, thenQ_normal, thenQ_ret, thenQ_exit, condQ_true, condQ_false, condQ_bool, opQ_some, opQ_none, guardQ_tt, guardQ_tf, guardQ_ft, guardQ_ff, guardQ_no, blockQ_normal, blockQ_ret, blockQ_exit, endP_ret, endP_normal, endI_ret, endI_normal, resQ_some, Frz_sci, Frz_slci, FrzL_nili, FrzL_consi, Frz_tupi, Frz_aggi, WpO_opD, WpO_nil, WpO_callD, WpO_guardD, step, Opd.get, put_app, put_none, ne_eq, reduceCtorEq, not_false_eq_true, not_true_eq_false, implies_true, slcLen, Option.map_some, Option.map_none, Option.bind_some, Option.bind_none, bin, binInt, reduceIte, Nat.reduceEqDiff, List.getD_cons_zero, List.getD_cons_succ, IntKind.signed, indexV, asNat?, loadV, cutCells, unary, evRess, evRes1, oneOrTup, wrapV, target, getsO, List.nil_append, List.append_nil, List.cons_append, Bool.false_eq_true, Bool.true_eq_false, decide_eq_true_eq, Bool.not_eq_true', decide_eq_false_iff_not, Bool.not_true, Bool.not_false, List.take_length, and_true, true_and, Int.ofNat_lt, Int.ofNat_le, Int.natCast_nonneg, Int.toNat_natCast, ge_iff_le, gt_iff_lt, if_true, if_false, List.length_map, decide_true, decide_false, int_beq, int_bne, bne_iff_ne, beq_iff_eq, Int.natCast_inj, Bool.and_eq_true, decide_not, Decidable.not_not, boundO, sliceV, exTo, Nat.zero_le, Nat.le_refl, Bool.or_true, beq_self_eq_true, Option.getD_some, Option.getD_none, List.drop_zero, Nat.sub_zero, and_self, or_true, true_or, or_self, false_or, or_false, and_false, false_and, Cp.isFull, isNil, moveV, Nat.add_zero, Nat.zero_add, Int.reduceLE, Int.reduceLT, Int.reduceEq, Int.reduceBEq, Int.reduceGT, Int.reduceGE, Nat.reduceLT, Nat.reduceLeDiff, V.cells, List.all_cons, List.all_nil, oneCell, Bool.and_true, Bool.and_self, List.length_nil, List.length_cons, List.getElem?_cons_zero, List.getElem?_cons_succ, List.take_succ_cons, List.take_zero, callD_ret hl, callD_ret (aw1 _)]
end
end Go.Am
