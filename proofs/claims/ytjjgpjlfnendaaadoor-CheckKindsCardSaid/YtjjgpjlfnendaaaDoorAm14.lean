/- The abstract machine and what is proved in it, part 14. -/
import Derived.Test.YtjjgpjlfnendaaaDoorAm13
set_option linter.unusedVariables false
section
/- Am: the program's shapes, kind by kind. -/
set_option linter.unusedSimpArgs false
namespace Go.Am
set_option maxHeartbeats 8000000 in
theorem of_k17 {base : Nat} {x : Nd} {lv : V} (h : Heap) (hl : LV lv x.l) (c17 : x.kind = 17) : WpF S0 base k_ast_of [.agg (ndC x lv)] h fun v h' => v = .tup [.agg (shapeOf x lv), .bool (kindOk x.kind)] ∧ h' = h := by
  first | refine WpF_pure (A := f_ast_of) rfl rfl rfl rfl ?_ | refine WpF_imp (A := f_ast_of) rfl rfl rfl rfl ?_
  simp only [f_ast_of, ndC]
  refine WpC_cut (fun en' h' => en' 1 = .eptr (ndC x lv) 0 ∧ en' 2 = .ptr h.length 0 ∧ en' 3 = .bool false ∧ h' = h ++ [.box 71 Zs]) ?_ ?_
  · simp only [SQ, SQB, oneCell, AOp.opds, Nat.reduceAdd, step, Opd.get, reduceCtorEq, slcLen, bin, binInt, reduceIte, Nat.reduceEqDiff, IntKind.signed, indexV, asNat?, loadV, cutCells, unary, evRess, evRes1, oneOrTup, wrapV, target, getsO, boundO, sliceV, exTo, Cp.isFull, isNil, moveV, Int.reduceLE, Int.reduceLT, Int.reduceEq, Int.reduceBEq, Int.reduceGT, Int.reduceGE, Nat.reduceLT, Nat.reduceLeDiff, SQX, V.cells, hl.gr]
  rintro en1 h1 ⟨e1, e2, e3, rfl⟩
  refine WpC_cut (fun en' h' => en' 1 = en1 1 ∧ en' 2 = en1 2 ∧ en' 3 = en1 3 ∧ en' 4 = .ptr (h.length + 1) 0 ∧ h' = h ++ [.box 71 Zs, .box 71 Pl]) ?_ ?_
  · have hf : fillParts Zs [(4, 1, (.fn (.func k_ast_none) [] [])), (5, 1, (.fn (.func k_ast_none) [] [])), (6, 1, (.fn (.func k_ast_exactly_1) [] [.eptr [.sc (.int .i64 0)] 0]))] = some Pl := rfl
    have hs := stA (h := h) (A := .box 71 Zs) (t := 71) (cs := Zs) (r := []) (A' := .dead) (by simp) (ds := Pl) rfl rfl rfl
    simp only [SQ, SQB, oneCell, AOp.opds, Nat.reduceAdd, step, Opd.get, reduceCtorEq, slcLen, bin, binInt, reduceIte, Nat.reduceEqDiff, IntKind.signed, indexV, asNat?, loadV, cutCells, unary, evRess, evRes1, oneOrTup, wrapV, target, getsO, boundO, sliceV, exTo, Cp.isFull, isNil, moveV, Int.reduceLE, Int.reduceLT, Int.reduceEq, Int.reduceBEq, Int.reduceGT, Int.reduceGE, Nat.reduceLT, Nat.reduceLeDiff, SQX, V.cells, callD_ret (exactly_r _ _), getParts, hf, List.length_append, List.append_assoc, hs]
  rintro en2 h2 ⟨f1, f2, f3, f4, rfl⟩
  refine WpC_cut (fun en' h' => en' 1 = en1 1 ∧ en' 2 = en1 2 ∧ en' 3 = en1 3 ∧ en' 5 = .ptr (h.length + 2) 0 ∧ h' = h ++ [.box 71 Zs, .box 71 Pl, .box 71 Pl]) ?_ ?_
  · have hg : (h ++ [Obj.box 71 Zs, Obj.box 71 Pl])[h.length + 1]? = some (.box 71 Pl) := by simp
    have hs := st3_2a (h := h) (A := .box 71 Zs) (B := .box 71 Pl) (t := 71) (cs := Zs) (ds := Pl) rfl rfl rfl
    simp only [SQ, SQB, oneCell, AOp.opds, Nat.reduceAdd, step, Opd.get, reduceCtorEq, slcLen, bin, binInt, reduceIte, Nat.reduceEqDiff, IntKind.signed, indexV, asNat?, loadV, cutCells, unary, evRess, evRes1, oneOrTup, wrapV, target, getsO, boundO, sliceV, exTo, Cp.isFull, isNil, moveV, Int.reduceLE, Int.reduceLT, Int.reduceEq, Int.reduceBEq, Int.reduceGT, Int.reduceGE, Nat.reduceLT, Nat.reduceLeDiff, SQX, V.cells, f1, f2, f3, f4, hg, take7, List.length_append, List.append_assoc, hs]
  rintro en3 h3 ⟨g1, g2, g3, g5, rfl⟩
  rw [e1] at g1
  rw [e2] at g2
  rw [e3] at g3
  have c1 : ¬ x.kind = 1 := by omega
  have c2 : ¬ x.kind = 2 := by omega
  have c3 : ¬ x.kind = 3 := by omega
  have c4 : ¬ x.kind = 4 := by omega
  have c5 : ¬ x.kind = 5 := by omega
  have c21 : ¬ x.kind = 21 := by omega
  have c6 : ¬ x.kind = 6 := by omega
  have c7 : ¬ x.kind = 7 := by omega
  have c8 : ¬ x.kind = 8 := by omega
  have c22 : ¬ x.kind = 22 := by omega
  have c9 : ¬ x.kind = 9 := by omega
  have c10 : ¬ x.kind = 10 := by omega
  have c11 : ¬ x.kind = 11 := by omega
  have c12 : ¬ x.kind = 12 := by omega
  have c13 : ¬ x.kind = 13 := by omega
  have c14 : ¬ x.kind = 14 := by omega
  have c15 : ¬ x.kind = 15 := by omega
  have c16 : ¬ x.kind = 16 := by omega
  have fl1 : fillRows 1 (List.replicate 2 [V.sc (.int .i64 (0))]) [(0, V.sc (.int .i64 (0))), (1, V.sc (.int .i64 (1)))] = some [[V.sc (.int .i64 (0))], [V.sc (.int .i64 (1))]] := rfl
  have fl2 : fillRows 1 (List.replicate 2 [V.sc (.int .i64 (0))]) [(0, V.sc (.int .i64 (0))), (1, V.sc (.int .i64 (2)))] = some [[V.sc (.int .i64 (0))], [V.sc (.int .i64 (2))]] := rfl
  have fl3 : fillRows 1 (List.replicate 4 [V.sc (.int .i64 (0))]) [(0, V.sc (.int .i64 (0))), (1, V.sc (.int .i64 (1))), (2, V.sc (.int .i64 (2))), (3, V.sc (.int .i64 (3)))] = some [[V.sc (.int .i64 (0))], [V.sc (.int .i64 (1))], [V.sc (.int .i64 (2))], [V.sc (.int .i64 (3))]] := rfl
  have fl4 : fillRows 1 (List.replicate 3 [V.sc (.int .i64 (0))]) [(0, V.sc (.int .i64 (1))), (1, V.sc (.int .i64 (2))), (2, V.sc (.int .i64 (3)))] = some [[V.sc (.int .i64 (1))], [V.sc (.int .i64 (2))], [V.sc (.int .i64 (3))]] := rfl
  simp only [SQ, SQB, oneCell, AOp.opds, Nat.reduceAdd, step, Opd.get, reduceCtorEq, slcLen, bin, binInt, reduceIte, Nat.reduceEqDiff, IntKind.signed, indexV, asNat?, loadV, cutCells, unary, evRess, evRes1, oneOrTup, wrapV, target, getsO, boundO, sliceV, exTo, Cp.isFull, isNil, moveV, Int.reduceLE, Int.reduceLT, Int.reduceEq, Int.reduceBEq, Int.reduceGT, Int.reduceGE, Nat.reduceLT, Nat.reduceLeDiff, SQX, V.cells, c1, c2, c3, c4, c5, c21, c6, c7, c8, c22, c9, c10, c11, c12, c13, c14, c15, c16, c17, g1, g2, g3, g5, callD_ret (exactly_r _ _), callD_ret (headed_r _ _ _), callD_ret (one_r _ _ _), st3_2s, st3_2f, at3_2, take7, st3_0a, at3_0, Frz_fn0, Frz_fn1, Frz_fn2, shapeOf, kindOk, shC, List.set, getParts, getParts2, fl1, fl2, fl3, fl4, List.map_cons, List.map_nil, Option.bind_some, List.length_cons, List.length_nil, List.take_left]
set_option maxHeartbeats 8000000 in
theorem of_k18 {base : Nat} {x : Nd} {lv : V} (h : Heap) (hl : LV lv x.l) (c18 : x.kind = 18) : WpF S0 base k_ast_of [.agg (ndC x lv)] h fun v h' => v = .tup [.agg (shapeOf x lv), .bool (kindOk x.kind)] ∧ h' = h := by
  first | refine WpF_pure (A := f_ast_of) rfl rfl rfl rfl ?_ | refine WpF_imp (A := f_ast_of) rfl rfl rfl rfl ?_
  simp only [f_ast_of, ndC]
  refine WpC_cut (fun en' h' => en' 1 = .eptr (ndC x lv) 0 ∧ en' 2 = .ptr h.length 0 ∧ en' 3 = .bool false ∧ h' = h ++ [.box 71 Zs]) ?_ ?_
  · simp only [SQ, SQB, oneCell, AOp.opds, Nat.reduceAdd, step, Opd.get, reduceCtorEq, slcLen, bin, binInt, reduceIte, Nat.reduceEqDiff, IntKind.signed, indexV, asNat?, loadV, cutCells, unary, evRess, evRes1, oneOrTup, wrapV, target, getsO, boundO, sliceV, exTo, Cp.isFull, isNil, moveV, Int.reduceLE, Int.reduceLT, Int.reduceEq, Int.reduceBEq, Int.reduceGT, Int.reduceGE, Nat.reduceLT, Nat.reduceLeDiff, SQX, V.cells, hl.gr]
  rintro en1 h1 ⟨e1, e2, e3, rfl⟩
  refine WpC_cut (fun en' h' => en' 1 = en1 1 ∧ en' 2 = en1 2 ∧ en' 3 = en1 3 ∧ en' 4 = .ptr (h.length + 1) 0 ∧ h' = h ++ [.box 71 Zs, .box 71 Pl]) ?_ ?_
  · have hf : fillParts Zs [(4, 1, (.fn (.func k_ast_none) [] [])), (5, 1, (.fn (.func k_ast_none) [] [])), (6, 1, (.fn (.func k_ast_exactly_1) [] [.eptr [.sc (.int .i64 0)] 0]))] = some Pl := rfl
    have hs := stA (h := h) (A := .box 71 Zs) (t := 71) (cs := Zs) (r := []) (A' := .dead) (by simp) (ds := Pl) rfl rfl rfl
    simp only [SQ, SQB, oneCell, AOp.opds, Nat.reduceAdd, step, Opd.get, reduceCtorEq, slcLen, bin, binInt, reduceIte, Nat.reduceEqDiff, IntKind.signed, indexV, asNat?, loadV, cutCells, unary, evRess, evRes1, oneOrTup, wrapV, target, getsO, boundO, sliceV, exTo, Cp.isFull, isNil, moveV, Int.reduceLE, Int.reduceLT, Int.reduceEq, Int.reduceBEq, Int.reduceGT, Int.reduceGE, Nat.reduceLT, Nat.reduceLeDiff, SQX, V.cells, callD_ret (exactly_r _ _), getParts, hf, List.length_append, List.append_assoc, hs]
  rintro en2 h2 ⟨f1, f2, f3, f4, rfl⟩
  refine WpC_cut (fun en' h' => en' 1 = en1 1 ∧ en' 2 = en1 2 ∧ en' 3 = en1 3 ∧ en' 5 = .ptr (h.length + 2) 0 ∧ h' = h ++ [.box 71 Zs, .box 71 Pl, .box 71 Pl]) ?_ ?_
  · have hg : (h ++ [Obj.box 71 Zs, Obj.box 71 Pl])[h.length + 1]? = some (.box 71 Pl) := by simp
    have hs := st3_2a (h := h) (A := .box 71 Zs) (B := .box 71 Pl) (t := 71) (cs := Zs) (ds := Pl) rfl rfl rfl
    simp only [SQ, SQB, oneCell, AOp.opds, Nat.reduceAdd, step, Opd.get, reduceCtorEq, slcLen, bin, binInt, reduceIte, Nat.reduceEqDiff, IntKind.signed, indexV, asNat?, loadV, cutCells, unary, evRess, evRes1, oneOrTup, wrapV, target, getsO, boundO, sliceV, exTo, Cp.isFull, isNil, moveV, Int.reduceLE, Int.reduceLT, Int.reduceEq, Int.reduceBEq, Int.reduceGT, Int.reduceGE, Nat.reduceLT, Nat.reduceLeDiff, SQX, V.cells, f1, f2, f3, f4, hg, take7, List.length_append, List.append_assoc, hs]
  rintro en3 h3 ⟨g1, g2, g3, g5, rfl⟩
  rw [e1] at g1
  rw [e2] at g2
  rw [e3] at g3
  have c1 : ¬ x.kind = 1 := by omega
  have c2 : ¬ x.kind = 2 := by omega
  have c3 : ¬ x.kind = 3 := by omega
  have c4 : ¬ x.kind = 4 := by omega
  have c5 : ¬ x.kind = 5 := by omega
  have c21 : ¬ x.kind = 21 := by omega
  have c6 : ¬ x.kind = 6 := by omega
  have c7 : ¬ x.kind = 7 := by omega
  have c8 : ¬ x.kind = 8 := by omega
  have c22 : ¬ x.kind = 22 := by omega
  have c9 : ¬ x.kind = 9 := by omega
  have c10 : ¬ x.kind = 10 := by omega
  have c11 : ¬ x.kind = 11 := by omega
  have c12 : ¬ x.kind = 12 := by omega
  have c13 : ¬ x.kind = 13 := by omega
  have c14 : ¬ x.kind = 14 := by omega
  have c15 : ¬ x.kind = 15 := by omega
  have c16 : ¬ x.kind = 16 := by omega
  have c17 : ¬ x.kind = 17 := by omega
  have fl1 : fillRows 1 (List.replicate 2 [V.sc (.int .i64 (0))]) [(0, V.sc (.int .i64 (0))), (1, V.sc (.int .i64 (1)))] = some [[V.sc (.int .i64 (0))], [V.sc (.int .i64 (1))]] := rfl
  have fl2 : fillRows 1 (List.replicate 2 [V.sc (.int .i64 (0))]) [(0, V.sc (.int .i64 (0))), (1, V.sc (.int .i64 (2)))] = some [[V.sc (.int .i64 (0))], [V.sc (.int .i64 (2))]] := rfl
  have fl3 : fillRows 1 (List.replicate 4 [V.sc (.int .i64 (0))]) [(0, V.sc (.int .i64 (0))), (1, V.sc (.int .i64 (1))), (2, V.sc (.int .i64 (2))), (3, V.sc (.int .i64 (3)))] = some [[V.sc (.int .i64 (0))], [V.sc (.int .i64 (1))], [V.sc (.int .i64 (2))], [V.sc (.int .i64 (3))]] := rfl
  have fl4 : fillRows 1 (List.replicate 3 [V.sc (.int .i64 (0))]) [(0, V.sc (.int .i64 (1))), (1, V.sc (.int .i64 (2))), (2, V.sc (.int .i64 (3)))] = some [[V.sc (.int .i64 (1))], [V.sc (.int .i64 (2))], [V.sc (.int .i64 (3))]] := rfl
  simp only [SQ, SQB, oneCell, AOp.opds, Nat.reduceAdd, step, Opd.get, reduceCtorEq, slcLen, bin, binInt, reduceIte, Nat.reduceEqDiff, IntKind.signed, indexV, asNat?, loadV, cutCells, unary, evRess, evRes1, oneOrTup, wrapV, target, getsO, boundO, sliceV, exTo, Cp.isFull, isNil, moveV, Int.reduceLE, Int.reduceLT, Int.reduceEq, Int.reduceBEq, Int.reduceGT, Int.reduceGE, Nat.reduceLT, Nat.reduceLeDiff, SQX, V.cells, c1, c2, c3, c4, c5, c21, c6, c7, c8, c22, c9, c10, c11, c12, c13, c14, c15, c16, c17, c18, g1, g2, g3, g5, callD_ret (exactly_r _ _), callD_ret (headed_r _ _ _), callD_ret (one_r _ _ _), st3_2s, st3_2f, at3_2, take7, st3_0a, at3_0, Frz_fn0, Frz_fn1, Frz_fn2, shapeOf, kindOk, shC, List.set, getParts, getParts2, fl1, fl2, fl3, fl4, List.map_cons, List.map_nil, Option.bind_some, List.length_cons, List.length_nil, List.take_left]
set_option maxHeartbeats 8000000 in
theorem of_k19 {base : Nat} {x : Nd} {lv : V} (h : Heap) (hl : LV lv x.l) (c19 : x.kind = 19) : WpF S0 base k_ast_of [.agg (ndC x lv)] h fun v h' => v = .tup [.agg (shapeOf x lv), .bool (kindOk x.kind)] ∧ h' = h := by
  first | refine WpF_pure (A := f_ast_of) rfl rfl rfl rfl ?_ | refine WpF_imp (A := f_ast_of) rfl rfl rfl rfl ?_
  simp only [f_ast_of, ndC]
  refine WpC_cut (fun en' h' => en' 1 = .eptr (ndC x lv) 0 ∧ en' 2 = .ptr h.length 0 ∧ en' 3 = .bool false ∧ h' = h ++ [.box 71 Zs]) ?_ ?_
  · simp only [SQ, SQB, oneCell, AOp.opds, Nat.reduceAdd, step, Opd.get, reduceCtorEq, slcLen, bin, binInt, reduceIte, Nat.reduceEqDiff, IntKind.signed, indexV, asNat?, loadV, cutCells, unary, evRess, evRes1, oneOrTup, wrapV, target, getsO, boundO, sliceV, exTo, Cp.isFull, isNil, moveV, Int.reduceLE, Int.reduceLT, Int.reduceEq, Int.reduceBEq, Int.reduceGT, Int.reduceGE, Nat.reduceLT, Nat.reduceLeDiff, SQX, V.cells, hl.gr]
  rintro en1 h1 ⟨e1, e2, e3, rfl⟩
  refine WpC_cut (fun en' h' => en' 1 = en1 1 ∧ en' 2 = en1 2 ∧ en' 3 = en1 3 ∧ en' 4 = .ptr (h.length + 1) 0 ∧ h' = h ++ [.box 71 Zs, .box 71 Pl]) ?_ ?_
  · have hf : fillParts Zs [(4, 1, (.fn (.func k_ast_none) [] [])), (5, 1, (.fn (.func k_ast_none) [] [])), (6, 1, (.fn (.func k_ast_exactly_1) [] [.eptr [.sc (.int .i64 0)] 0]))] = some Pl := rfl
    have hs := stA (h := h) (A := .box 71 Zs) (t := 71) (cs := Zs) (r := []) (A' := .dead) (by simp) (ds := Pl) rfl rfl rfl
    simp only [SQ, SQB, oneCell, AOp.opds, Nat.reduceAdd, step, Opd.get, reduceCtorEq, slcLen, bin, binInt, reduceIte, Nat.reduceEqDiff, IntKind.signed, indexV, asNat?, loadV, cutCells, unary, evRess, evRes1, oneOrTup, wrapV, target, getsO, boundO, sliceV, exTo, Cp.isFull, isNil, moveV, Int.reduceLE, Int.reduceLT, Int.reduceEq, Int.reduceBEq, Int.reduceGT, Int.reduceGE, Nat.reduceLT, Nat.reduceLeDiff, SQX, V.cells, callD_ret (exactly_r _ _), getParts, hf, List.length_append, List.append_assoc, hs]
  rintro en2 h2 ⟨f1, f2, f3, f4, rfl⟩
  refine WpC_cut (fun en' h' => en' 1 = en1 1 ∧ en' 2 = en1 2 ∧ en' 3 = en1 3 ∧ en' 5 = .ptr (h.length + 2) 0 ∧ h' = h ++ [.box 71 Zs, .box 71 Pl, .box 71 Pl]) ?_ ?_
  · have hg : (h ++ [Obj.box 71 Zs, Obj.box 71 Pl])[h.length + 1]? = some (.box 71 Pl) := by simp
    have hs := st3_2a (h := h) (A := .box 71 Zs) (B := .box 71 Pl) (t := 71) (cs := Zs) (ds := Pl) rfl rfl rfl
    simp only [SQ, SQB, oneCell, AOp.opds, Nat.reduceAdd, step, Opd.get, reduceCtorEq, slcLen, bin, binInt, reduceIte, Nat.reduceEqDiff, IntKind.signed, indexV, asNat?, loadV, cutCells, unary, evRess, evRes1, oneOrTup, wrapV, target, getsO, boundO, sliceV, exTo, Cp.isFull, isNil, moveV, Int.reduceLE, Int.reduceLT, Int.reduceEq, Int.reduceBEq, Int.reduceGT, Int.reduceGE, Nat.reduceLT, Nat.reduceLeDiff, SQX, V.cells, f1, f2, f3, f4, hg, take7, List.length_append, List.append_assoc, hs]
  rintro en3 h3 ⟨g1, g2, g3, g5, rfl⟩
  rw [e1] at g1
  rw [e2] at g2
  rw [e3] at g3
  have c1 : ¬ x.kind = 1 := by omega
  have c2 : ¬ x.kind = 2 := by omega
  have c3 : ¬ x.kind = 3 := by omega
  have c4 : ¬ x.kind = 4 := by omega
  have c5 : ¬ x.kind = 5 := by omega
  have c21 : ¬ x.kind = 21 := by omega
  have c6 : ¬ x.kind = 6 := by omega
  have c7 : ¬ x.kind = 7 := by omega
  have c8 : ¬ x.kind = 8 := by omega
  have c22 : ¬ x.kind = 22 := by omega
  have c9 : ¬ x.kind = 9 := by omega
  have c10 : ¬ x.kind = 10 := by omega
  have c11 : ¬ x.kind = 11 := by omega
  have c12 : ¬ x.kind = 12 := by omega
  have c13 : ¬ x.kind = 13 := by omega
  have c14 : ¬ x.kind = 14 := by omega
  have c15 : ¬ x.kind = 15 := by omega
  have c16 : ¬ x.kind = 16 := by omega
  have c17 : ¬ x.kind = 17 := by omega
  have c18 : ¬ x.kind = 18 := by omega
  have fl1 : fillRows 1 (List.replicate 2 [V.sc (.int .i64 (0))]) [(0, V.sc (.int .i64 (0))), (1, V.sc (.int .i64 (1)))] = some [[V.sc (.int .i64 (0))], [V.sc (.int .i64 (1))]] := rfl
  have fl2 : fillRows 1 (List.replicate 2 [V.sc (.int .i64 (0))]) [(0, V.sc (.int .i64 (0))), (1, V.sc (.int .i64 (2)))] = some [[V.sc (.int .i64 (0))], [V.sc (.int .i64 (2))]] := rfl
  have fl3 : fillRows 1 (List.replicate 4 [V.sc (.int .i64 (0))]) [(0, V.sc (.int .i64 (0))), (1, V.sc (.int .i64 (1))), (2, V.sc (.int .i64 (2))), (3, V.sc (.int .i64 (3)))] = some [[V.sc (.int .i64 (0))], [V.sc (.int .i64 (1))], [V.sc (.int .i64 (2))], [V.sc (.int .i64 (3))]] := rfl
  have fl4 : fillRows 1 (List.replicate 3 [V.sc (.int .i64 (0))]) [(0, V.sc (.int .i64 (1))), (1, V.sc (.int .i64 (2))), (2, V.sc (.int .i64 (3)))] = some [[V.sc (.int .i64 (1))], [V.sc (.int .i64 (2))], [V.sc (.int .i64 (3))]] := rfl
  simp only [SQ, SQB, oneCell, AOp.opds, Nat.reduceAdd, step, Opd.get, reduceCtorEq, slcLen, bin, binInt, reduceIte, Nat.reduceEqDiff, IntKind.signed, indexV, asNat?, loadV, cutCells, unary, evRess, evRes1, oneOrTup, wrapV, target, getsO, boundO, sliceV, exTo, Cp.isFull, isNil, moveV, Int.reduceLE, Int.reduceLT, Int.reduceEq, Int.reduceBEq, Int.reduceGT, Int.reduceGE, Nat.reduceLT, Nat.reduceLeDiff, SQX, V.cells, c1, c2, c3, c4, c5, c21, c6, c7, c8, c22, c9, c10, c11, c12, c13, c14, c15, c16, c17, c18, c19, g1, g2, g3, g5, callD_ret (exactly_r _ _), callD_ret (headed_r _ _ _), callD_ret (one_r _ _ _), st3_2s, st3_2f, at3_2, take7, st3_0a, at3_0, Frz_fn0, Frz_fn1, Frz_fn2, shapeOf, kindOk, shC, List.set, getParts, getParts2, fl1, fl2, fl3, fl4, List.map_cons, List.map_nil, Option.bind_some, List.length_cons, List.length_nil, List.take_left]
end Go.Am
end
section
/- Am: the program's shapes, kind by kind. -/
set_option linter.unusedSimpArgs false
namespace Go.Am
set_option maxHeartbeats 8000000 in
theorem of_k20 {base : Nat} {x : Nd} {lv : V} (h : Heap) (hl : LV lv x.l) (c20 : x.kind = 20) : WpF S0 base k_ast_of [.agg (ndC x lv)] h fun v h' => v = .tup [.agg (shapeOf x lv), .bool (kindOk x.kind)] ∧ h' = h := by
  first | refine WpF_pure (A := f_ast_of) rfl rfl rfl rfl ?_ | refine WpF_imp (A := f_ast_of) rfl rfl rfl rfl ?_
  simp only [f_ast_of, ndC]
  refine WpC_cut (fun en' h' => en' 1 = .eptr (ndC x lv) 0 ∧ en' 2 = .ptr h.length 0 ∧ en' 3 = .bool false ∧ h' = h ++ [.box 71 Zs]) ?_ ?_
  · simp only [SQ, SQB, oneCell, AOp.opds, Nat.reduceAdd, step, Opd.get, reduceCtorEq, slcLen, bin, binInt, reduceIte, Nat.reduceEqDiff, IntKind.signed, indexV, asNat?, loadV, cutCells, unary, evRess, evRes1, oneOrTup, wrapV, target, getsO, boundO, sliceV, exTo, Cp.isFull, isNil, moveV, Int.reduceLE, Int.reduceLT, Int.reduceEq, Int.reduceBEq, Int.reduceGT, Int.reduceGE, Nat.reduceLT, Nat.reduceLeDiff, SQX, V.cells, hl.gr]
  rintro en1 h1 ⟨e1, e2, e3, rfl⟩
  refine WpC_cut (fun en' h' => en' 1 = en1 1 ∧ en' 2 = en1 2 ∧ en' 3 = en1 3 ∧ en' 4 = .ptr (h.length + 1) 0 ∧ h' = h ++ [.box 71 Zs, .box 71 Pl]) ?_ ?_
  · have hf : fillParts Zs [(4, 1, (.fn (.func k_ast_none) [] [])), (5, 1, (.fn (.func k_ast_none) [] [])), (6, 1, (.fn (.func k_ast_exactly_1) [] [.eptr [.sc (.int .i64 0)] 0]))] = some Pl := rfl
    have hs := stA (h := h) (A := .box 71 Zs) (t := 71) (cs := Zs) (r := []) (A' := .dead) (by simp) (ds := Pl) rfl rfl rfl
    simp only [SQ, SQB, oneCell, AOp.opds, Nat.reduceAdd, step, Opd.get, reduceCtorEq, slcLen, bin, binInt, reduceIte, Nat.reduceEqDiff, IntKind.signed, indexV, asNat?, loadV, cutCells, unary, evRess, evRes1, oneOrTup, wrapV, target, getsO, boundO, sliceV, exTo, Cp.isFull, isNil, moveV, Int.reduceLE, Int.reduceLT, Int.reduceEq, Int.reduceBEq, Int.reduceGT, Int.reduceGE, Nat.reduceLT, Nat.reduceLeDiff, SQX, V.cells, callD_ret (exactly_r _ _), getParts, hf, List.length_append, List.append_assoc, hs]
  rintro en2 h2 ⟨f1, f2, f3, f4, rfl⟩
  refine WpC_cut (fun en' h' => en' 1 = en1 1 ∧ en' 2 = en1 2 ∧ en' 3 = en1 3 ∧ en' 5 = .ptr (h.length + 2) 0 ∧ h' = h ++ [.box 71 Zs, .box 71 Pl, .box 71 Pl]) ?_ ?_
  · have hg : (h ++ [Obj.box 71 Zs, Obj.box 71 Pl])[h.length + 1]? = some (.box 71 Pl) := by simp
    have hs := st3_2a (h := h) (A := .box 71 Zs) (B := .box 71 Pl) (t := 71) (cs := Zs) (ds := Pl) rfl rfl rfl
    simp only [SQ, SQB, oneCell, AOp.opds, Nat.reduceAdd, step, Opd.get, reduceCtorEq, slcLen, bin, binInt, reduceIte, Nat.reduceEqDiff, IntKind.signed, indexV, asNat?, loadV, cutCells, unary, evRess, evRes1, oneOrTup, wrapV, target, getsO, boundO, sliceV, exTo, Cp.isFull, isNil, moveV, Int.reduceLE, Int.reduceLT, Int.reduceEq, Int.reduceBEq, Int.reduceGT, Int.reduceGE, Nat.reduceLT, Nat.reduceLeDiff, SQX, V.cells, f1, f2, f3, f4, hg, take7, List.length_append, List.append_assoc, hs]
  rintro en3 h3 ⟨g1, g2, g3, g5, rfl⟩
  rw [e1] at g1
  rw [e2] at g2
  rw [e3] at g3
  have c1 : ¬ x.kind = 1 := by omega
  have c2 : ¬ x.kind = 2 := by omega
  have c3 : ¬ x.kind = 3 := by omega
  have c4 : ¬ x.kind = 4 := by omega
  have c5 : ¬ x.kind = 5 := by omega
  have c21 : ¬ x.kind = 21 := by omega
  have c6 : ¬ x.kind = 6 := by omega
  have c7 : ¬ x.kind = 7 := by omega
  have c8 : ¬ x.kind = 8 := by omega
  have c22 : ¬ x.kind = 22 := by omega
  have c9 : ¬ x.kind = 9 := by omega
  have c10 : ¬ x.kind = 10 := by omega
  have c11 : ¬ x.kind = 11 := by omega
  have c12 : ¬ x.kind = 12 := by omega
  have c13 : ¬ x.kind = 13 := by omega
  have c14 : ¬ x.kind = 14 := by omega
  have c15 : ¬ x.kind = 15 := by omega
  have c16 : ¬ x.kind = 16 := by omega
  have c17 : ¬ x.kind = 17 := by omega
  have c18 : ¬ x.kind = 18 := by omega
  have c19 : ¬ x.kind = 19 := by omega
  have fl1 : fillRows 1 (List.replicate 2 [V.sc (.int .i64 (0))]) [(0, V.sc (.int .i64 (0))), (1, V.sc (.int .i64 (1)))] = some [[V.sc (.int .i64 (0))], [V.sc (.int .i64 (1))]] := rfl
  have fl2 : fillRows 1 (List.replicate 2 [V.sc (.int .i64 (0))]) [(0, V.sc (.int .i64 (0))), (1, V.sc (.int .i64 (2)))] = some [[V.sc (.int .i64 (0))], [V.sc (.int .i64 (2))]] := rfl
  have fl3 : fillRows 1 (List.replicate 4 [V.sc (.int .i64 (0))]) [(0, V.sc (.int .i64 (0))), (1, V.sc (.int .i64 (1))), (2, V.sc (.int .i64 (2))), (3, V.sc (.int .i64 (3)))] = some [[V.sc (.int .i64 (0))], [V.sc (.int .i64 (1))], [V.sc (.int .i64 (2))], [V.sc (.int .i64 (3))]] := rfl
  have fl4 : fillRows 1 (List.replicate 3 [V.sc (.int .i64 (0))]) [(0, V.sc (.int .i64 (1))), (1, V.sc (.int .i64 (2))), (2, V.sc (.int .i64 (3)))] = some [[V.sc (.int .i64 (1))], [V.sc (.int .i64 (2))], [V.sc (.int .i64 (3))]] := rfl
  simp only [SQ, SQB, oneCell, AOp.opds, Nat.reduceAdd, step, Opd.get, reduceCtorEq, slcLen, bin, binInt, reduceIte, Nat.reduceEqDiff, IntKind.signed, indexV, asNat?, loadV, cutCells, unary, evRess, evRes1, oneOrTup, wrapV, target, getsO, boundO, sliceV, exTo, Cp.isFull, isNil, moveV, Int.reduceLE, Int.reduceLT, Int.reduceEq, Int.reduceBEq, Int.reduceGT, Int.reduceGE, Nat.reduceLT, Nat.reduceLeDiff, SQX, V.cells, c1, c2, c3, c4, c5, c21, c6, c7, c8, c22, c9, c10, c11, c12, c13, c14, c15, c16, c17, c18, c19, c20, g1, g2, g3, g5, callD_ret (exactly_r _ _), callD_ret (headed_r _ _ _), callD_ret (one_r _ _ _), st3_2s, st3_2f, at3_2, take7, st3_0a, at3_0, Frz_fn0, Frz_fn1, Frz_fn2, shapeOf, kindOk, shC, List.set, getParts, getParts2, fl1, fl2, fl3, fl4, List.map_cons, List.map_nil, Option.bind_some, List.length_cons, List.length_nil, List.take_left]
set_option maxHeartbeats 8000000 in
theorem of_k23 {base : Nat} {x : Nd} {lv : V} (h : Heap) (hl : LV lv x.l) (c23 : x.kind = 23) : WpF S0 base k_ast_of [.agg (ndC x lv)] h fun v h' => v = .tup [.agg (shapeOf x lv), .bool (kindOk x.kind)] ∧ h' = h := by
  first | refine WpF_pure (A := f_ast_of) rfl rfl rfl rfl ?_ | refine WpF_imp (A := f_ast_of) rfl rfl rfl rfl ?_
  simp only [f_ast_of, ndC]
  refine WpC_cut (fun en' h' => en' 1 = .eptr (ndC x lv) 0 ∧ en' 2 = .ptr h.length 0 ∧ en' 3 = .bool false ∧ h' = h ++ [.box 71 Zs]) ?_ ?_
  · simp only [SQ, SQB, oneCell, AOp.opds, Nat.reduceAdd, step, Opd.get, reduceCtorEq, slcLen, bin, binInt, reduceIte, Nat.reduceEqDiff, IntKind.signed, indexV, asNat?, loadV, cutCells, unary, evRess, evRes1, oneOrTup, wrapV, target, getsO, boundO, sliceV, exTo, Cp.isFull, isNil, moveV, Int.reduceLE, Int.reduceLT, Int.reduceEq, Int.reduceBEq, Int.reduceGT, Int.reduceGE, Nat.reduceLT, Nat.reduceLeDiff, SQX, V.cells, hl.gr]
  rintro en1 h1 ⟨e1, e2, e3, rfl⟩
  refine WpC_cut (fun en' h' => en' 1 = en1 1 ∧ en' 2 = en1 2 ∧ en' 3 = en1 3 ∧ en' 4 = .ptr (h.length + 1) 0 ∧ h' = h ++ [.box 71 Zs, .box 71 Pl]) ?_ ?_
  · have hf : fillParts Zs [(4, 1, (.fn (.func k_ast_none) [] [])), (5, 1, (.fn (.func k_ast_none) [] [])), (6, 1, (.fn (.func k_ast_exactly_1) [] [.eptr [.sc (.int .i64 0)] 0]))] = some Pl := rfl
    have hs := stA (h := h) (A := .box 71 Zs) (t := 71) (cs := Zs) (r := []) (A' := .dead) (by simp) (ds := Pl) rfl rfl rfl
    simp only [SQ, SQB, oneCell, AOp.opds, Nat.reduceAdd, step, Opd.get, reduceCtorEq, slcLen, bin, binInt, reduceIte, Nat.reduceEqDiff, IntKind.signed, indexV, asNat?, loadV, cutCells, unary, evRess, evRes1, oneOrTup, wrapV, target, getsO, boundO, sliceV, exTo, Cp.isFull, isNil, moveV, Int.reduceLE, Int.reduceLT, Int.reduceEq, Int.reduceBEq, Int.reduceGT, Int.reduceGE, Nat.reduceLT, Nat.reduceLeDiff, SQX, V.cells, callD_ret (exactly_r _ _), getParts, hf, List.length_append, List.append_assoc, hs]
  rintro en2 h2 ⟨f1, f2, f3, f4, rfl⟩
  refine WpC_cut (fun en' h' => en' 1 = en1 1 ∧ en' 2 = en1 2 ∧ en' 3 = en1 3 ∧ en' 5 = .ptr (h.length + 2) 0 ∧ h' = h ++ [.box 71 Zs, .box 71 Pl, .box 71 Pl]) ?_ ?_
  · have hg : (h ++ [Obj.box 71 Zs, Obj.box 71 Pl])[h.length + 1]? = some (.box 71 Pl) := by simp
    have hs := st3_2a (h := h) (A := .box 71 Zs) (B := .box 71 Pl) (t := 71) (cs := Zs) (ds := Pl) rfl rfl rfl
    simp only [SQ, SQB, oneCell, AOp.opds, Nat.reduceAdd, step, Opd.get, reduceCtorEq, slcLen, bin, binInt, reduceIte, Nat.reduceEqDiff, IntKind.signed, indexV, asNat?, loadV, cutCells, unary, evRess, evRes1, oneOrTup, wrapV, target, getsO, boundO, sliceV, exTo, Cp.isFull, isNil, moveV, Int.reduceLE, Int.reduceLT, Int.reduceEq, Int.reduceBEq, Int.reduceGT, Int.reduceGE, Nat.reduceLT, Nat.reduceLeDiff, SQX, V.cells, f1, f2, f3, f4, hg, take7, List.length_append, List.append_assoc, hs]
  rintro en3 h3 ⟨g1, g2, g3, g5, rfl⟩
  rw [e1] at g1
  rw [e2] at g2
  rw [e3] at g3
  have c1 : ¬ x.kind = 1 := by omega
  have c2 : ¬ x.kind = 2 := by omega
  have c3 : ¬ x.kind = 3 := by omega
  have c4 : ¬ x.kind = 4 := by omega
  have c5 : ¬ x.kind = 5 := by omega
  have c21 : ¬ x.kind = 21 := by omega
  have c6 : ¬ x.kind = 6 := by omega
  have c7 : ¬ x.kind = 7 := by omega
  have c8 : ¬ x.kind = 8 := by omega
  have c22 : ¬ x.kind = 22 := by omega
  have c9 : ¬ x.kind = 9 := by omega
  have c10 : ¬ x.kind = 10 := by omega
  have c11 : ¬ x.kind = 11 := by omega
  have c12 : ¬ x.kind = 12 := by omega
  have c13 : ¬ x.kind = 13 := by omega
  have c14 : ¬ x.kind = 14 := by omega
  have c15 : ¬ x.kind = 15 := by omega
  have c16 : ¬ x.kind = 16 := by omega
  have c17 : ¬ x.kind = 17 := by omega
  have c18 : ¬ x.kind = 18 := by omega
  have c19 : ¬ x.kind = 19 := by omega
  have c20 : ¬ x.kind = 20 := by omega
  have fl1 : fillRows 1 (List.replicate 2 [V.sc (.int .i64 (0))]) [(0, V.sc (.int .i64 (0))), (1, V.sc (.int .i64 (1)))] = some [[V.sc (.int .i64 (0))], [V.sc (.int .i64 (1))]] := rfl
  have fl2 : fillRows 1 (List.replicate 2 [V.sc (.int .i64 (0))]) [(0, V.sc (.int .i64 (0))), (1, V.sc (.int .i64 (2)))] = some [[V.sc (.int .i64 (0))], [V.sc (.int .i64 (2))]] := rfl
  have fl3 : fillRows 1 (List.replicate 4 [V.sc (.int .i64 (0))]) [(0, V.sc (.int .i64 (0))), (1, V.sc (.int .i64 (1))), (2, V.sc (.int .i64 (2))), (3, V.sc (.int .i64 (3)))] = some [[V.sc (.int .i64 (0))], [V.sc (.int .i64 (1))], [V.sc (.int .i64 (2))], [V.sc (.int .i64 (3))]] := rfl
  have fl4 : fillRows 1 (List.replicate 3 [V.sc (.int .i64 (0))]) [(0, V.sc (.int .i64 (1))), (1, V.sc (.int .i64 (2))), (2, V.sc (.int .i64 (3)))] = some [[V.sc (.int .i64 (1))], [V.sc (.int .i64 (2))], [V.sc (.int .i64 (3))]] := rfl
  simp only [SQ, SQB, oneCell, AOp.opds, Nat.reduceAdd, step, Opd.get, reduceCtorEq, slcLen, bin, binInt, reduceIte, Nat.reduceEqDiff, IntKind.signed, indexV, asNat?, loadV, cutCells, unary, evRess, evRes1, oneOrTup, wrapV, target, getsO, boundO, sliceV, exTo, Cp.isFull, isNil, moveV, Int.reduceLE, Int.reduceLT, Int.reduceEq, Int.reduceBEq, Int.reduceGT, Int.reduceGE, Nat.reduceLT, Nat.reduceLeDiff, SQX, V.cells, c1, c2, c3, c4, c5, c21, c6, c7, c8, c22, c9, c10, c11, c12, c13, c14, c15, c16, c17, c18, c19, c20, c23, g1, g2, g3, g5, callD_ret (exactly_r _ _), callD_ret (headed_r _ _ _), callD_ret (one_r _ _ _), st3_2s, st3_2f, at3_2, take7, st3_0a, at3_0, Frz_fn0, Frz_fn1, Frz_fn2, shapeOf, kindOk, shC, List.set, getParts, getParts2, fl1, fl2, fl3, fl4, List.map_cons, List.map_nil, Option.bind_some, List.length_cons, List.length_nil, List.take_left]
set_option maxHeartbeats 8000000 in
theorem of_k24 {base : Nat} {x : Nd} {lv : V} (h : Heap) (hl : LV lv x.l) (c24 : x.kind = 24) : WpF S0 base k_ast_of [.agg (ndC x lv)] h fun v h' => v = .tup [.agg (shapeOf x lv), .bool (kindOk x.kind)] ∧ h' = h := by
  first | refine WpF_pure (A := f_ast_of) rfl rfl rfl rfl ?_ | refine WpF_imp (A := f_ast_of) rfl rfl rfl rfl ?_
  simp only [f_ast_of, ndC]
  refine WpC_cut (fun en' h' => en' 1 = .eptr (ndC x lv) 0 ∧ en' 2 = .ptr h.length 0 ∧ en' 3 = .bool false ∧ h' = h ++ [.box 71 Zs]) ?_ ?_
  · simp only [SQ, SQB, oneCell, AOp.opds, Nat.reduceAdd, step, Opd.get, reduceCtorEq, slcLen, bin, binInt, reduceIte, Nat.reduceEqDiff, IntKind.signed, indexV, asNat?, loadV, cutCells, unary, evRess, evRes1, oneOrTup, wrapV, target, getsO, boundO, sliceV, exTo, Cp.isFull, isNil, moveV, Int.reduceLE, Int.reduceLT, Int.reduceEq, Int.reduceBEq, Int.reduceGT, Int.reduceGE, Nat.reduceLT, Nat.reduceLeDiff, SQX, V.cells, hl.gr]
  rintro en1 h1 ⟨e1, e2, e3, rfl⟩
  refine WpC_cut (fun en' h' => en' 1 = en1 1 ∧ en' 2 = en1 2 ∧ en' 3 = en1 3 ∧ en' 4 = .ptr (h.length + 1) 0 ∧ h' = h ++ [.box 71 Zs, .box 71 Pl]) ?_ ?_
  · have hf : fillParts Zs [(4, 1, (.fn (.func k_ast_none) [] [])), (5, 1, (.fn (.func k_ast_none) [] [])), (6, 1, (.fn (.func k_ast_exactly_1) [] [.eptr [.sc (.int .i64 0)] 0]))] = some Pl := rfl
    have hs := stA (h := h) (A := .box 71 Zs) (t := 71) (cs := Zs) (r := []) (A' := .dead) (by simp) (ds := Pl) rfl rfl rfl
    simp only [SQ, SQB, oneCell, AOp.opds, Nat.reduceAdd, step, Opd.get, reduceCtorEq, slcLen, bin, binInt, reduceIte, Nat.reduceEqDiff, IntKind.signed, indexV, asNat?, loadV, cutCells, unary, evRess, evRes1, oneOrTup, wrapV, target, getsO, boundO, sliceV, exTo, Cp.isFull, isNil, moveV, Int.reduceLE, Int.reduceLT, Int.reduceEq, Int.reduceBEq, Int.reduceGT, Int.reduceGE, Nat.reduceLT, Nat.reduceLeDiff, SQX, V.cells, callD_ret (exactly_r _ _), getParts, hf, List.length_append, List.append_assoc, hs]
  rintro en2 h2 ⟨f1, f2, f3, f4, rfl⟩
  refine WpC_cut (fun en' h' => en' 1 = en1 1 ∧ en' 2 = en1 2 ∧ en' 3 = en1 3 ∧ en' 5 = .ptr (h.length + 2) 0 ∧ h' = h ++ [.box 71 Zs, .box 71 Pl, .box 71 Pl]) ?_ ?_
  · have hg : (h ++ [Obj.box 71 Zs, Obj.box 71 Pl])[h.length + 1]? = some (.box 71 Pl) := by simp
    have hs := st3_2a (h := h) (A := .box 71 Zs) (B := .box 71 Pl) (t := 71) (cs := Zs) (ds := Pl) rfl rfl rfl
    simp only [SQ, SQB, oneCell, AOp.opds, Nat.reduceAdd, step, Opd.get, reduceCtorEq, slcLen, bin, binInt, reduceIte, Nat.reduceEqDiff, IntKind.signed, indexV, asNat?, loadV, cutCells, unary, evRess, evRes1, oneOrTup, wrapV, target, getsO, boundO, sliceV, exTo, Cp.isFull, isNil, moveV, Int.reduceLE, Int.reduceLT, Int.reduceEq, Int.reduceBEq, Int.reduceGT, Int.reduceGE, Nat.reduceLT, Nat.reduceLeDiff, SQX, V.cells, f1, f2, f3, f4, hg, take7, List.length_append, List.append_assoc, hs]
  rintro en3 h3 ⟨g1, g2, g3, g5, rfl⟩
  rw [e1] at g1
  rw [e2] at g2
  rw [e3] at g3
  have c1 : ¬ x.kind = 1 := by omega
  have c2 : ¬ x.kind = 2 := by omega
  have c3 : ¬ x.kind = 3 := by omega
  have c4 : ¬ x.kind = 4 := by omega
  have c5 : ¬ x.kind = 5 := by omega
  have c21 : ¬ x.kind = 21 := by omega
  have c6 : ¬ x.kind = 6 := by omega
  have c7 : ¬ x.kind = 7 := by omega
  have c8 : ¬ x.kind = 8 := by omega
  have c22 : ¬ x.kind = 22 := by omega
  have c9 : ¬ x.kind = 9 := by omega
  have c10 : ¬ x.kind = 10 := by omega
  have c11 : ¬ x.kind = 11 := by omega
  have c12 : ¬ x.kind = 12 := by omega
  have c13 : ¬ x.kind = 13 := by omega
  have c14 : ¬ x.kind = 14 := by omega
  have c15 : ¬ x.kind = 15 := by omega
  have c16 : ¬ x.kind = 16 := by omega
  have c17 : ¬ x.kind = 17 := by omega
  have c18 : ¬ x.kind = 18 := by omega
  have c19 : ¬ x.kind = 19 := by omega
  have c20 : ¬ x.kind = 20 := by omega
  have c23 : ¬ x.kind = 23 := by omega
  have fl1 : fillRows 1 (List.replicate 2 [V.sc (.int .i64 (0))]) [(0, V.sc (.int .i64 (0))), (1, V.sc (.int .i64 (1)))] = some [[V.sc (.int .i64 (0))], [V.sc (.int .i64 (1))]] := rfl
  have fl2 : fillRows 1 (List.replicate 2 [V.sc (.int .i64 (0))]) [(0, V.sc (.int .i64 (0))), (1, V.sc (.int .i64 (2)))] = some [[V.sc (.int .i64 (0))], [V.sc (.int .i64 (2))]] := rfl
  have fl3 : fillRows 1 (List.replicate 4 [V.sc (.int .i64 (0))]) [(0, V.sc (.int .i64 (0))), (1, V.sc (.int .i64 (1))), (2, V.sc (.int .i64 (2))), (3, V.sc (.int .i64 (3)))] = some [[V.sc (.int .i64 (0))], [V.sc (.int .i64 (1))], [V.sc (.int .i64 (2))], [V.sc (.int .i64 (3))]] := rfl
  have fl4 : fillRows 1 (List.replicate 3 [V.sc (.int .i64 (0))]) [(0, V.sc (.int .i64 (1))), (1, V.sc (.int .i64 (2))), (2, V.sc (.int .i64 (3)))] = some [[V.sc (.int .i64 (1))], [V.sc (.int .i64 (2))], [V.sc (.int .i64 (3))]] := rfl
  simp only [SQ, SQB, oneCell, AOp.opds, Nat.reduceAdd, step, Opd.get, reduceCtorEq, slcLen, bin, binInt, reduceIte, Nat.reduceEqDiff, IntKind.signed, indexV, asNat?, loadV, cutCells, unary, evRess, evRes1, oneOrTup, wrapV, target, getsO, boundO, sliceV, exTo, Cp.isFull, isNil, moveV, Int.reduceLE, Int.reduceLT, Int.reduceEq, Int.reduceBEq, Int.reduceGT, Int.reduceGE, Nat.reduceLT, Nat.reduceLeDiff, SQX, V.cells, c1, c2, c3, c4, c5, c21, c6, c7, c8, c22, c9, c10, c11, c12, c13, c14, c15, c16, c17, c18, c19, c20, c23, c24, g1, g2, g3, g5, callD_ret (exactly_r _ _), callD_ret (headed_r _ _ _), callD_ret (one_r _ _ _), st3_2s, st3_2f, at3_2, take7, st3_0a, at3_0, Frz_fn0, Frz_fn1, Frz_fn2, shapeOf, kindOk, shC, List.set, getParts, getParts2, fl1, fl2, fl3, fl4, List.map_cons, List.map_nil, Option.bind_some, List.length_cons, List.length_nil, List.take_left]
end Go.Am
end
section
/- Am: the program's shapes, joined. -/
namespace Go.Am
theorem of_r {base : Nat} {x : Nd} {lv : V} (h : Heap) (hl : LV lv x.l) : WpF S0 base k_ast_of [.agg (ndC x lv)] h fun v h' => v = .tup [.agg (shapeOf x lv), .bool (kindOk x.kind)] ∧ h' = h := by
  by_cases c1 : x.kind = 1
  · exact of_k1 h hl c1
  by_cases c2 : x.kind = 2
  · exact of_k2 h hl c2
  by_cases c3 : x.kind = 3
  · exact of_k3 h hl c3
  by_cases c4 : x.kind = 4
  · exact of_k4 h hl c4
  by_cases c5 : x.kind = 5
  · exact of_k5 h hl c5
  by_cases c21 : x.kind = 21
  · exact of_k21 h hl c21
  by_cases c6 : x.kind = 6
  · exact of_k6 h hl c6
  by_cases c7 : x.kind = 7
  · exact of_k7 h hl c7
  by_cases c8 : x.kind = 8
  · exact of_k8 h hl c8
  by_cases c22 : x.kind = 22
  · exact of_k22 h hl c22
  by_cases c9 : x.kind = 9
  · exact of_k9 h hl c9
  by_cases c10 : x.kind = 10
  · exact of_k10 h hl c10
  by_cases c11 : x.kind = 11
  · exact of_k11 h hl c11
  by_cases c12 : x.kind = 12
  · exact of_k12 h hl c12
  by_cases c13 : x.kind = 13
  · exact of_k13 h hl c13
  by_cases c14 : x.kind = 14
  · exact of_k14 h hl c14
  by_cases c15 : x.kind = 15
  · exact of_k15 h hl c15
  by_cases c16 : x.kind = 16
  · exact of_k16 h hl c16
  by_cases c17 : x.kind = 17
  · exact of_k17 h hl c17
  by_cases c18 : x.kind = 18
  · exact of_k18 h hl c18
  by_cases c19 : x.kind = 19
  · exact of_k19 h hl c19
  by_cases c20 : x.kind = 20
  · exact of_k20 h hl c20
  by_cases c23 : x.kind = 23
  · exact of_k23 h hl c23
  by_cases c24 : x.kind = 24
  · exact of_k24 h hl c24
  exact of_no h hl (by omega)
end Go.Am
end
section
/- Am: the program's may, by shapes. -/
set_option linter.unusedSimpArgs false
namespace Go.Am
section
variable {h : Heap} {t : TypeId} {cs : List V}
theorem at1_0 {A : Obj} : (h ++ [A])[h.length]? = some A := by simp
theorem st1a {ds : List V} (h7 : ds.length = 7) (h8 : cs.length = 7) (h1 : ds.all oneCell = true) : storeV h.length (h ++ [.box t cs]) 7 (.ptr h.length 0) (.agg ds) = some (h ++ [.box t ds]) := by
  refine (store_box (x := .agg ds) (n := 7) at1_0 h7 h1 (by omega) (by simp [mayStore])).trans ?_
  rw [show (V.agg ds).cells = ds from rfl, putAll h7 h8]
  simp [List.set_append_right]
end
set_option maxHeartbeats 4000000 in
theorem may_of {base : Nat} {x : Nd} {lv : V} (h : Heap) (hl : LV lv x.l) (z a c e : Bool) (kN kO kL : FuncId) (cN cO cL : List V) (N O L : Bool)
    (hs : shapeOf x lv = shC z a c e (.fn (.func kN) [] cN) (.fn (.func kO) [] cO) (.fn (.func kL) [] cL)) (hk : kindOk x.kind = true)
    (hN : ∀ base h, WpF S0 base kN (.sc (.int .i64 x.n) :: cN) h fun v h' => v = .bool N ∧ h' = h)
    (hO : ∀ base h, WpF S0 base kO (.sc (.int .i64 x.ord) :: cO) h fun v h' => v = .bool O ∧ h' = h)
    (hL : ∀ base h, WpF S0 base kL (lv :: cL) h fun v h' => v = .bool L ∧ h' = h) :
    WpF S0 base k_ast_may [.agg (ndC x lv)] h fun v h' => v = .bool (!decide (x.line < 0) && (z == nameB x.s) && (z || decide (x.s.size = 0)) && secondB a c e x.t && N && O && L) ∧ h' = h := by
  first | refine WpF_pure (A := f_ast_may) rfl rfl rfl rfl ?_ | refine WpF_imp (A := f_ast_may) rfl rfl rfl rfl ?_
  simp only [f_ast_may, ndC]
  refine WpC_cut (fun en' h' => en' 1 = .eptr (ndC x lv) 0 ∧ en' 2 = .bool false ∧ h' = h) ?_ ?_
  · simp only [SQ, SQB, oneCell, AOp.opds, Nat.reduceAdd, step, Opd.get, reduceCtorEq, slcLen, bin, binInt, reduceIte, Nat.reduceEqDiff, IntKind.signed, indexV, asNat?, loadV, cutCells, unary, evRess, evRes1, oneOrTup, wrapV, target, getsO, boundO, sliceV, exTo, Cp.isFull, isNil, moveV, Int.reduceLE, Int.reduceLT, Int.reduceEq, Int.reduceBEq, Int.reduceGT, Int.reduceGE, Nat.reduceLT, Nat.reduceLeDiff, SQX, V.cells, hl.gr]
  rintro en1 h1 ⟨e1, e2, rfl⟩
  have ho : ∀ base, _ := fun base => of_r (base := base) h1 hl
  rw [hs, hk] at ho
  refine WpC_cut (fun en' h' => en' 1 = .eptr (ndC x lv) 0 ∧ en' 3 = .ptr h1.length 0 ∧ en' 4 = .bool true ∧ h' = h1 ++ [.box 71 (shC z a c e (.fn (.func kN) [] cN) (.fn (.func kO) [] cO) (.fn (.func kL) [] cL))]) ?_ ?_
  · have hst := st1a (h := h1) (t := 71) (cs := Zs) (ds := shC z a c e (.fn (.func kN) [] cN) (.fn (.func kO) [] cO) (.fn (.func kL) [] cL)) rfl rfl rfl
    simp only [SQ, SQB, oneCell, AOp.opds, Nat.reduceAdd, step, Opd.get, reduceCtorEq, slcLen, bin, binInt, reduceIte, Nat.reduceEqDiff, IntKind.signed, indexV, asNat?, cutCells, unary, evRess, evRes1, oneOrTup, wrapV, target, getsO, boundO, sliceV, exTo, Cp.isFull, isNil, moveV, Int.reduceLE, Int.reduceLT, Int.reduceEq, Int.reduceBEq, Int.reduceGT, Int.reduceGE, Nat.reduceLT, Nat.reduceLeDiff, SQX, V.cells, e1, e2, agg_load (r := ndC x lv) rfl, callD_ret (ho _), hst]
  rintro en2 h2 ⟨f1, f3, f4, rfl⟩
  have ez := empty_list x.s
  have qa : (false == true) = false := rfl
  have qb : (true == false) = false := rfl
  by_cases hln : x.line < 0
  · have d1 := decide_eq_true hln
    simp only [SQ, SQB, oneCell, AOp.opds, Nat.reduceAdd, step, Opd.get, reduceCtorEq, slcLen, bin, binInt, reduceIte, Nat.reduceEqDiff, IntKind.signed, indexV, asNat?, loadV, cutCells, unary, evRess, evRes1, oneOrTup, wrapV, target, getsO, boundO, sliceV, exTo, Cp.isFull, isNil, moveV, Int.reduceLE, Int.reduceLT, Int.reduceEq, Int.reduceBEq, Int.reduceGT, Int.reduceGE, Nat.reduceLT, Nat.reduceLeDiff, SQX, V.cells, f1, f3, f4, hln, d1, List.take_left, qa, qb]
    first | done | rfl
  have d1 := decide_eq_false hln
  have hn1 := fun base h => name_r (base := base) x.s h
  cases hnm : nameB x.s
  all_goals rw [hnm] at hn1
  all_goals cases z
  · by_cases hsz : x.s.size = 0
    · have d2 := decide_eq_true hsz
      have hsec := fun base h => second_r (base := base) false a c e (.fn (.func kN) [] cN) (.fn (.func kO) [] cO) (.fn (.func kL) [] cL) x.t h rfl rfl rfl
      cases h2 : secondB a c e x.t
      all_goals rw [h2] at hsec
      · simp only [SQ, SQB, oneCell, AOp.opds, Nat.reduceAdd, step, Opd.get, reduceCtorEq, slcLen, bin, binInt, reduceIte, Nat.reduceEqDiff, IntKind.signed, indexV, asNat?, loadV, cutCells, unary, evRess, evRes1, oneOrTup, wrapV, target, getsO, boundO, sliceV, exTo, Cp.isFull, isNil, moveV, Int.reduceLE, Int.reduceLT, Int.reduceEq, Int.reduceBEq, Int.reduceGT, Int.reduceGE, Nat.reduceLT, Nat.reduceLeDiff, SQX, V.cells, f1, f3, f4, hln, d1, at1_0, binStr, ez, d2, take7, callD_ret (hn1 _ _), callD_ret (hsec _ _), List.take_left]
        first | done | rfl
      cases N
      · simp only [SQ, SQB, oneCell, AOp.opds, Nat.reduceAdd, step, Opd.get, reduceCtorEq, slcLen, bin, binInt, reduceIte, Nat.reduceEqDiff, IntKind.signed, indexV, asNat?, loadV, cutCells, unary, evRess, evRes1, oneOrTup, wrapV, target, getsO, boundO, sliceV, exTo, Cp.isFull, isNil, moveV, Int.reduceLE, Int.reduceLT, Int.reduceEq, Int.reduceBEq, Int.reduceGT, Int.reduceGE, Nat.reduceLT, Nat.reduceLeDiff, SQX, V.cells, f1, f3, f4, hln, d1, at1_0, binStr, ez, d2, take7, callD_ret (hn1 _ _), callD_ret (hsec _ _), List.take_left, callD_ret (hN _ _)]
        first | done | rfl
      cases O
      · simp only [SQ, SQB, oneCell, AOp.opds, Nat.reduceAdd, step, Opd.get, reduceCtorEq, slcLen, bin, binInt, reduceIte, Nat.reduceEqDiff, IntKind.signed, indexV, asNat?, loadV, cutCells, unary, evRess, evRes1, oneOrTup, wrapV, target, getsO, boundO, sliceV, exTo, Cp.isFull, isNil, moveV, Int.reduceLE, Int.reduceLT, Int.reduceEq, Int.reduceBEq, Int.reduceGT, Int.reduceGE, Nat.reduceLT, Nat.reduceLeDiff, SQX, V.cells, f1, f3, f4, hln, d1, at1_0, binStr, ez, d2, take7, callD_ret (hn1 _ _), callD_ret (hsec _ _), List.take_left, callD_ret (hN _ _), callD_ret (hO _ _)]
        first | done | rfl
      · simp only [SQ, SQB, oneCell, AOp.opds, Nat.reduceAdd, step, Opd.get, reduceCtorEq, slcLen, bin, binInt, reduceIte, Nat.reduceEqDiff, IntKind.signed, indexV, asNat?, loadV, cutCells, unary, evRess, evRes1, oneOrTup, wrapV, target, getsO, boundO, sliceV, exTo, Cp.isFull, isNil, moveV, Int.reduceLE, Int.reduceLT, Int.reduceEq, Int.reduceBEq, Int.reduceGT, Int.reduceGE, Nat.reduceLT, Nat.reduceLeDiff, SQX, V.cells, f1, f3, f4, hln, d1, at1_0, binStr, ez, d2, take7, callD_ret (hn1 _ _), callD_ret (hsec _ _), List.take_left, callD_ret (hN _ _), callD_ret (hO _ _), callD_ret (hL _ _)]
        first | done | rfl
    · have d2 := decide_eq_false hsz
      simp only [SQ, SQB, oneCell, AOp.opds, Nat.reduceAdd, step, Opd.get, reduceCtorEq, slcLen, bin, binInt, reduceIte, Nat.reduceEqDiff, IntKind.signed, indexV, asNat?, loadV, cutCells, unary, evRess, evRes1, oneOrTup, wrapV, target, getsO, boundO, sliceV, exTo, Cp.isFull, isNil, moveV, Int.reduceLE, Int.reduceLT, Int.reduceEq, Int.reduceBEq, Int.reduceGT, Int.reduceGE, Nat.reduceLT, Nat.reduceLeDiff, SQX, V.cells, f1, f3, f4, hln, d1, at1_0, binStr, ez, d2, callD_ret (hn1 _ _), List.take_left]
      first | done | rfl
  · simp only [SQ, SQB, oneCell, AOp.opds, Nat.reduceAdd, step, Opd.get, reduceCtorEq, slcLen, bin, binInt, reduceIte, Nat.reduceEqDiff, IntKind.signed, indexV, asNat?, loadV, cutCells, unary, evRess, evRes1, oneOrTup, wrapV, target, getsO, boundO, sliceV, exTo, Cp.isFull, isNil, moveV, Int.reduceLE, Int.reduceLT, Int.reduceEq, Int.reduceBEq, Int.reduceGT, Int.reduceGE, Nat.reduceLT, Nat.reduceLeDiff, SQX, V.cells, f1, f3, f4, hln, d1, at1_0, callD_ret (hn1 _ _), List.take_left, qa, qb]
    first | done | rfl
  · simp only [SQ, SQB, oneCell, AOp.opds, Nat.reduceAdd, step, Opd.get, reduceCtorEq, slcLen, bin, binInt, reduceIte, Nat.reduceEqDiff, IntKind.signed, indexV, asNat?, loadV, cutCells, unary, evRess, evRes1, oneOrTup, wrapV, target, getsO, boundO, sliceV, exTo, Cp.isFull, isNil, moveV, Int.reduceLE, Int.reduceLT, Int.reduceEq, Int.reduceBEq, Int.reduceGT, Int.reduceGE, Nat.reduceLT, Nat.reduceLeDiff, SQX, V.cells, f1, f3, f4, hln, d1, at1_0, callD_ret (hn1 _ _), List.take_left, qa, qb]
    first | done | rfl
  · have hsec := fun base h => second_r (base := base) true a c e (.fn (.func kN) [] cN) (.fn (.func kO) [] cO) (.fn (.func kL) [] cL) x.t h rfl rfl rfl
    cases h2 : secondB a c e x.t
    all_goals rw [h2] at hsec
    · simp only [SQ, SQB, oneCell, AOp.opds, Nat.reduceAdd, step, Opd.get, reduceCtorEq, slcLen, bin, binInt, reduceIte, Nat.reduceEqDiff, IntKind.signed, indexV, asNat?, loadV, cutCells, unary, evRess, evRes1, oneOrTup, wrapV, target, getsO, boundO, sliceV, exTo, Cp.isFull, isNil, moveV, Int.reduceLE, Int.reduceLT, Int.reduceEq, Int.reduceBEq, Int.reduceGT, Int.reduceGE, Nat.reduceLT, Nat.reduceLeDiff, SQX, V.cells, f1, f3, f4, hln, d1, at1_0, take7, callD_ret (hn1 _ _), callD_ret (hsec _ _), List.take_left]
      first | done | rfl
    cases N
    · simp only [SQ, SQB, oneCell, AOp.opds, Nat.reduceAdd, step, Opd.get, reduceCtorEq, slcLen, bin, binInt, reduceIte, Nat.reduceEqDiff, IntKind.signed, indexV, asNat?, loadV, cutCells, unary, evRess, evRes1, oneOrTup, wrapV, target, getsO, boundO, sliceV, exTo, Cp.isFull, isNil, moveV, Int.reduceLE, Int.reduceLT, Int.reduceEq, Int.reduceBEq, Int.reduceGT, Int.reduceGE, Nat.reduceLT, Nat.reduceLeDiff, SQX, V.cells, f1, f3, f4, hln, d1, at1_0, take7, callD_ret (hn1 _ _), callD_ret (hsec _ _), List.take_left, callD_ret (hN _ _)]
      first | done | rfl
    cases O
    · simp only [SQ, SQB, oneCell, AOp.opds, Nat.reduceAdd, step, Opd.get, reduceCtorEq, slcLen, bin, binInt, reduceIte, Nat.reduceEqDiff, IntKind.signed, indexV, asNat?, loadV, cutCells, unary, evRess, evRes1, oneOrTup, wrapV, target, getsO, boundO, sliceV, exTo, Cp.isFull, isNil, moveV, Int.reduceLE, Int.reduceLT, Int.reduceEq, Int.reduceBEq, Int.reduceGT, Int.reduceGE, Nat.reduceLT, Nat.reduceLeDiff, SQX, V.cells, f1, f3, f4, hln, d1, at1_0, take7, callD_ret (hn1 _ _), callD_ret (hsec _ _), List.take_left, callD_ret (hN _ _), callD_ret (hO _ _)]
      first | done | rfl
    · simp only [SQ, SQB, oneCell, AOp.opds, Nat.reduceAdd, step, Opd.get, reduceCtorEq, slcLen, bin, binInt, reduceIte, Nat.reduceEqDiff, IntKind.signed, indexV, asNat?, loadV, cutCells, unary, evRess, evRes1, oneOrTup, wrapV, target, getsO, boundO, sliceV, exTo, Cp.isFull, isNil, moveV, Int.reduceLE, Int.reduceLT, Int.reduceEq, Int.reduceBEq, Int.reduceGT, Int.reduceGE, Nat.reduceLT, Nat.reduceLeDiff, SQX, V.cells, f1, f3, f4, hln, d1, at1_0, take7, callD_ret (hn1 _ _), callD_ret (hsec _ _), List.take_left, callD_ret (hN _ _), callD_ret (hO _ _), callD_ret (hL _ _)]
      first | done | rfl
end Go.Am
end
section
/- Am: the program's may, whole: as the reference's. -/
set_option linter.unusedSimpArgs false
namespace Go.Am
theorem line_eq (n : Int) : (!decide (n < 0)) = decide (0 ≤ n) := by
  rw [← decide_not, decide_eq_decide]; omega
theorem nameB_empty {s : ByteArray} (h : s.size = 0) : nameB s = false := by
  unfold nameB
  rw [decide_eq_false (show ¬ (1 ≤ s.size ∧ s.size ≤ 32) by omega)]
  rfl
theorem head_t (p a d : Bool) : (p && (true == a) && (true || d)) = (p && a) := by cases p <;> cases a <;> rfl
theorem head_f (p : Bool) (s : ByteArray) : (p && (false == nameB s) && (false || decide (s.size = 0))) = (p && decide (s.size = 0)) := by
  by_cases h : s.size = 0
  · rw [nameB_empty h, decide_eq_true h]; cases p <;> rfl
  · rw [decide_eq_false h]; cases p <;> simp
theorem one01 (o : Int) : [0, 1].contains o = decide (o = 0 ∨ o = 1) := by rw [Bool.eq_iff_iff]; simp
theorem one02 (o : Int) : [0, 2].contains o = decide (o = 0 ∨ o = 2) := by rw [Bool.eq_iff_iff]; simp
theorem one0123 (o : Int) : [0, 1, 2, 3].contains o = decide (0 ≤ o ∧ o ≤ 3) := by rw [Bool.eq_iff_iff]; simp; omega
theorem one123 (o : Int) : [1, 2, 3].contains o = decide (1 ≤ o ∧ o ≤ 3) := by rw [Bool.eq_iff_iff]; simp; omega
theorem len1 (l : List Nd) : decide ((l.length : Int) = 1) = decide (l.length = 1) := by rw [decide_eq_decide]; omega
theorem len2 (l : List Nd) : decide ((l.length : Int) = 2) = decide (l.length = 2) := by rw [decide_eq_decide]; omega
theorem len0 (l : List Nd) (lo hi : Int) : (decide ((l.length : Int) = 0) && allN nameB lo hi l) = decide (l.length = 0) := by
  cases l with
  | nil => rfl
  | cons a r => simp; intro h; omega
theorem lenh1 (l : List Nd) : decide (1 < (l.length : Int) ∧ (l.length : Int) ≤ 1 + 1) = decide (l.length = 2) := by rw [decide_eq_decide]; omega
theorem lenh2 (l : List Nd) : decide (1 < (l.length : Int) ∧ (l.length : Int) ≤ 2 + 1) = decide (l.length = 2 ∨ l.length = 3) := by rw [decide_eq_decide]; omega
theorem sec_t (x : ByteArray) : secondB true false false x = nameB x := rfl
theorem sec_g (x : ByteArray) : secondB false true false x = decide (0 < strengthN x.data.toList) := rfl
theorem sec_i (x : ByteArray) : secondB false false true x = decide (x.data.toList = [45] ∨ x.data.toList = [33] ∨ x.data.toList = [126]) := rfl
theorem sec_0 (x : ByteArray) : secondB false false false x = decide (x.size = 0) := rfl
set_option maxHeartbeats 1000000 in
theorem may_1 {base : Nat} {x : Nd} {lv : V} (h : Heap) (hl : LV lv x.l) (hm : ∀ y ∈ x.l, MayOk y) (hk : x.kind = 1) : WpF S0 base k_ast_may [.agg (ndC x lv)] h fun v h' => v = .bool (mayN nameB x) ∧ h' = h := by
  have hs : shapeOf x lv = shC false false false false (.fn (.func k_ast_none) [] []) (.fn (.func k_ast_none) [] []) (.fn (.func k_ast_of_1) [] []) := by unfold shapeOf; rw [hk]; rfl
  have hr := may_of (base := base) h hl false false false false k_ast_none k_ast_none k_ast_of_1 [] [] [] (decide (x.n = 0)) (decide (x.ord = 0)) (allN nameB 2 4 x.l) hs (by rw [hk]; rfl) (fun base h => none_r x.n h) (fun base h => none_r x.ord h) (fun base h => of1_r hl h hm)
  rw [mayN_1 hk]
  simp only [blankB, reduceIte, Bool.false_eq_true]
  simp only [head_t, head_f, line_eq, one01, one02, one0123, one123, len1, len2, len0, lenh1, lenh2, sec_t, sec_g, sec_i, sec_0] at hr
  simp only [Bool.true_or, Bool.false_or, Bool.and_true, Bool.true_and] at hr ⊢
  refine hr.mono fun v h' q => ⟨q.1.trans (congrArg V.bool (by ac_rfl)), q.2⟩
set_option maxHeartbeats 1000000 in
theorem may_2 {base : Nat} {x : Nd} {lv : V} (h : Heap) (hl : LV lv x.l) (hm : ∀ y ∈ x.l, MayOk y) (hk : x.kind = 2) : WpF S0 base k_ast_may [.agg (ndC x lv)] h fun v h' => v = .bool (mayN nameB x) ∧ h' = h := by
  have hs : shapeOf x lv = shC true false false false (.fn (.func k_ast_any1) [] []) (.fn (.func k_ast_none) [] []) (.fn (.func k_ast_exactly_1) [] [.eptr [.sc (.int .i64 0)] 0]) := by unfold shapeOf; rw [hk]; rfl
  have hr := may_of (base := base) h hl true false false false k_ast_any1 k_ast_none k_ast_exactly_1 [] [] [.eptr [.sc (.int .i64 0)] 0] (true) (decide (x.ord = 0)) (decide ((x.l.length : Int) = 0) && allN nameB 20 24 x.l) hs (by rw [hk]; rfl) (fun base h => any1_r x.n h) (fun base h => none_r x.ord h) (fun base h => exactly1_r 0 hl h hm)
  rw [mayN_2 hk]
  simp only [blankB, reduceIte, Bool.false_eq_true]
  simp only [head_t, head_f, line_eq, one01, one02, one0123, one123, len1, len2, len0, lenh1, lenh2, sec_t, sec_g, sec_i, sec_0] at hr
  simp only [Bool.true_or, Bool.false_or, Bool.and_true, Bool.true_and] at hr ⊢
  refine hr.mono fun v h' q => ⟨q.1.trans (congrArg V.bool (by ac_rfl)), q.2⟩
set_option maxHeartbeats 1000000 in
theorem may_3 {base : Nat} {x : Nd} {lv : V} (h : Heap) (hl : LV lv x.l) (hm : ∀ y ∈ x.l, MayOk y) (hk : x.kind = 3) : WpF S0 base k_ast_may [.agg (ndC x lv)] h fun v h' => v = .bool (mayN nameB x) ∧ h' = h := by
  have hs : shapeOf x lv = shC true false false false (.fn (.func k_ast_natural) [] []) (.fn (.func k_ast_none) [] []) (.fn (.func k_ast_of_2) [] [.eptr (ndC x lv) 0]) := by unfold shapeOf; rw [hk]; rfl
  have hr := may_of (base := base) h hl true false false false k_ast_natural k_ast_none k_ast_of_2 [] [] [.eptr (ndC x lv) 0] (decide (0 ≤ x.n)) (decide (x.ord = 0)) (lastN nameB 5 5 x.l && decide (x.n < x.l.length)) hs (by rw [hk]; rfl) (fun base h => natural_r x.n h) (fun base h => none_r x.ord h) (fun base h => of2_r hl h hm)
  rw [mayN_3 hk]
  simp only [blankB, reduceIte, Bool.false_eq_true]
  simp only [head_t, head_f, line_eq, one01, one02, one0123, one123, len1, len2, len0, lenh1, lenh2, sec_t, sec_g, sec_i, sec_0] at hr
  simp only [Bool.true_or, Bool.false_or, Bool.and_true, Bool.true_and] at hr ⊢
  refine hr.mono fun v h' q => ⟨q.1.trans (congrArg V.bool (by ac_rfl)), q.2⟩
set_option maxHeartbeats 1000000 in
theorem may_4 {base : Nat} {x : Nd} {lv : V} (h : Heap) (hl : LV lv x.l) (hm : ∀ y ∈ x.l, MayOk y) (hk : x.kind = 4) : WpF S0 base k_ast_may [.agg (ndC x lv)] h fun v h' => v = .bool (mayN nameB x) ∧ h' = h := by
  have hs : shapeOf x lv = shC false false false false (.fn (.func k_ast_none) [] []) (.fn (.func k_ast_none) [] []) (.fn (.func k_ast_of_3) [] []) := by unfold shapeOf; rw [hk]; rfl
  have hr := may_of (base := base) h hl false false false false k_ast_none k_ast_none k_ast_of_3 [] [] [] (decide (x.n = 0)) (decide (x.ord = 0)) (lastN nameB 5 6 x.l) hs (by rw [hk]; rfl) (fun base h => none_r x.n h) (fun base h => none_r x.ord h) (fun base h => of3_r hl h hm)
  rw [mayN_4 hk]
  simp only [blankB, reduceIte, Bool.false_eq_true]
  simp only [head_t, head_f, line_eq, one01, one02, one0123, one123, len1, len2, len0, lenh1, lenh2, sec_t, sec_g, sec_i, sec_0] at hr
  simp only [Bool.true_or, Bool.false_or, Bool.and_true, Bool.true_and] at hr ⊢
  refine hr.mono fun v h' q => ⟨q.1.trans (congrArg V.bool (by ac_rfl)), q.2⟩
set_option maxHeartbeats 1000000 in
theorem may_5 {base : Nat} {x : Nd} {lv : V} (h : Heap) (hl : LV lv x.l) (hm : ∀ y ∈ x.l, MayOk y) (hk : x.kind = 5) : WpF S0 base k_ast_may [.agg (ndC x lv)] h fun v h' => v = .bool (mayN nameB x) ∧ h' = h := by
  have hs : shapeOf x lv = shC true false false false (.fn (.func k_ast_none) [] []) (.fn (.func k_ast_none) [] []) (.fn (.func k_ast_exactly_1) [] [.eptr [.sc (.int .i64 0)] 0]) := by unfold shapeOf; rw [hk]; rfl
  have hr := may_of (base := base) h hl true false false false k_ast_none k_ast_none k_ast_exactly_1 [] [] [.eptr [.sc (.int .i64 0)] 0] (decide (x.n = 0)) (decide (x.ord = 0)) (decide ((x.l.length : Int) = 0) && allN nameB 20 24 x.l) hs (by rw [hk]; rfl) (fun base h => none_r x.n h) (fun base h => none_r x.ord h) (fun base h => exactly1_r 0 hl h hm)
  rw [mayN_5 hk]
  simp only [blankB, reduceIte, Bool.false_eq_true]
  simp only [head_t, head_f, line_eq, one01, one02, one0123, one123, len1, len2, len0, lenh1, lenh2, sec_t, sec_g, sec_i, sec_0] at hr
  simp only [Bool.true_or, Bool.false_or, Bool.and_true, Bool.true_and] at hr ⊢
  refine hr.mono fun v h' q => ⟨q.1.trans (congrArg V.bool (by ac_rfl)), q.2⟩
set_option maxHeartbeats 1000000 in
theorem may_6 {base : Nat} {x : Nd} {lv : V} (h : Heap) (hl : LV lv x.l) (hm : ∀ y ∈ x.l, MayOk y) (hk : x.kind = 6) : WpF S0 base k_ast_may [.agg (ndC x lv)] h fun v h' => v = .bool (mayN nameB x) ∧ h' = h := by
  have hs : shapeOf x lv = shC true false false false (.fn (.func k_ast_natural) [] []) (.fn (.func k_ast_none) [] []) (.fn (.func k_ast_exactly_1) [] [.eptr [.sc (.int .i64 0)] 0]) := by unfold shapeOf; rw [hk]; rfl
  have hr := may_of (base := base) h hl true false false false k_ast_natural k_ast_none k_ast_exactly_1 [] [] [.eptr [.sc (.int .i64 0)] 0] (decide (0 ≤ x.n)) (decide (x.ord = 0)) (decide ((x.l.length : Int) = 0) && allN nameB 20 24 x.l) hs (by rw [hk]; rfl) (fun base h => natural_r x.n h) (fun base h => none_r x.ord h) (fun base h => exactly1_r 0 hl h hm)
  rw [mayN_6 hk]
  simp only [blankB, reduceIte, Bool.false_eq_true]
  simp only [head_t, head_f, line_eq, one01, one02, one0123, one123, len1, len2, len0, lenh1, lenh2, sec_t, sec_g, sec_i, sec_0] at hr
  simp only [Bool.true_or, Bool.false_or, Bool.and_true, Bool.true_and] at hr ⊢
  refine hr.mono fun v h' q => ⟨q.1.trans (congrArg V.bool (by ac_rfl)), q.2⟩
set_option maxHeartbeats 1000000 in
theorem may_7 {base : Nat} {x : Nd} {lv : V} (h : Heap) (hl : LV lv x.l) (hm : ∀ y ∈ x.l, MayOk y) (hk : x.kind = 7) : WpF S0 base k_ast_may [.agg (ndC x lv)] h fun v h' => v = .bool (mayN nameB x) ∧ h' = h := by
  have hs : shapeOf x lv = shC false false false false (.fn (.func k_ast_none) [] []) (.fn (.func k_ast_none) [] []) (.fn (.func k_ast_of_4) [] []) := by unfold shapeOf; rw [hk]; rfl
  have hr := may_of (base := base) h hl false false false false k_ast_none k_ast_none k_ast_of_4 [] [] [] (decide (x.n = 0)) (decide (x.ord = 0)) (allN nameB 8 19 x.l) hs (by rw [hk]; rfl) (fun base h => none_r x.n h) (fun base h => none_r x.ord h) (fun base h => of4_r hl h hm)
  rw [mayN_7 hk]
  simp only [blankB, reduceIte, Bool.false_eq_true]
  simp only [head_t, head_f, line_eq, one01, one02, one0123, one123, len1, len2, len0, lenh1, lenh2, sec_t, sec_g, sec_i, sec_0] at hr
  simp only [Bool.true_or, Bool.false_or, Bool.and_true, Bool.true_and] at hr ⊢
  refine hr.mono fun v h' q => ⟨q.1.trans (congrArg V.bool (by ac_rfl)), q.2⟩
set_option maxHeartbeats 1000000 in
theorem may_8 {base : Nat} {x : Nd} {lv : V} (h : Heap) (hl : LV lv x.l) (hm : ∀ y ∈ x.l, MayOk y) (hk : x.kind = 8) : WpF S0 base k_ast_may [.agg (ndC x lv)] h fun v h' => v = .bool (mayN nameB x) ∧ h' = h := by
  have hs : shapeOf x lv = shC true false false false (.fn (.func k_ast_none) [] []) (.fn (.func k_ast_none) [] []) (.fn (.func k_ast_exactly_1) [] [.eptr [.sc (.int .i64 1)] 0]) := by unfold shapeOf; rw [hk]; rfl
  have hr := may_of (base := base) h hl true false false false k_ast_none k_ast_none k_ast_exactly_1 [] [] [.eptr [.sc (.int .i64 1)] 0] (decide (x.n = 0)) (decide (x.ord = 0)) (decide ((x.l.length : Int) = 1) && allN nameB 20 24 x.l) hs (by rw [hk]; rfl) (fun base h => none_r x.n h) (fun base h => none_r x.ord h) (fun base h => exactly1_r 1 hl h hm)
  rw [mayN_8 hk]
  simp only [blankB, reduceIte, Bool.false_eq_true]
  simp only [head_t, head_f, line_eq, one01, one02, one0123, one123, len1, len2, len0, lenh1, lenh2, sec_t, sec_g, sec_i, sec_0] at hr
  simp only [Bool.true_or, Bool.false_or, Bool.and_true, Bool.true_and] at hr ⊢
  refine hr.mono fun v h' q => ⟨q.1.trans (congrArg V.bool (by ac_rfl)), q.2⟩
set_option maxHeartbeats 1000000 in
theorem may_9 {base : Nat} {x : Nd} {lv : V} (h : Heap) (hl : LV lv x.l) (hm : ∀ y ∈ x.l, MayOk y) (hk : x.kind = 9) : WpF S0 base k_ast_may [.agg (ndC x lv)] h fun v h' => v = .bool (mayN nameB x) ∧ h' = h := by
  have hs : shapeOf x lv = shC true false false false (.fn (.func k_ast_none) [] []) (.fn (.func k_ast_none) [] []) (.fn (.func k_ast_exactly_1) [] [.eptr [.sc (.int .i64 2)] 0]) := by unfold shapeOf; rw [hk]; rfl
  have hr := may_of (base := base) h hl true false false false k_ast_none k_ast_none k_ast_exactly_1 [] [] [.eptr [.sc (.int .i64 2)] 0] (decide (x.n = 0)) (decide (x.ord = 0)) (decide ((x.l.length : Int) = 2) && allN nameB 20 24 x.l) hs (by rw [hk]; rfl) (fun base h => none_r x.n h) (fun base h => none_r x.ord h) (fun base h => exactly1_r 2 hl h hm)
  rw [mayN_9 hk]
  simp only [blankB, reduceIte, Bool.false_eq_true]
  simp only [head_t, head_f, line_eq, one01, one02, one0123, one123, len1, len2, len0, lenh1, lenh2, sec_t, sec_g, sec_i, sec_0] at hr
  simp only [Bool.true_or, Bool.false_or, Bool.and_true, Bool.true_and] at hr ⊢
  refine hr.mono fun v h' q => ⟨q.1.trans (congrArg V.bool (by ac_rfl)), q.2⟩
set_option maxHeartbeats 1000000 in
theorem may_10 {base : Nat} {x : Nd} {lv : V} (h : Heap) (hl : LV lv x.l) (hm : ∀ y ∈ x.l, MayOk y) (hk : x.kind = 10) : WpF S0 base k_ast_may [.agg (ndC x lv)] h fun v h' => v = .bool (mayN nameB x) ∧ h' = h := by
  have hs : shapeOf x lv = shC true true false false (.fn (.func k_ast_none) [] []) (.fn (.func k_ast_one_1) [] [.eptr [.slc .lit 1 (([0, 1] : List Int).map fun (i : Int) => [V.sc (.int .i64 i)])] 0]) (.fn (.func k_ast_exactly_1) [] [.eptr [.sc (.int .i64 0)] 0]) := by unfold shapeOf; rw [hk]; rfl
  have hr := may_of (base := base) h hl true true false false k_ast_none k_ast_one_1 k_ast_exactly_1 [] [.eptr [.slc .lit 1 (([0, 1] : List Int).map fun (i : Int) => [V.sc (.int .i64 i)])] 0] [.eptr [.sc (.int .i64 0)] 0] (decide (x.n = 0)) (([0, 1] : List Int).contains x.ord) (decide ((x.l.length : Int) = 0) && allN nameB 20 24 x.l) hs (by rw [hk]; rfl) (fun base h => none_r x.n h) (fun base h => one1_r [0, 1] x.ord .lit h (by decide)) (fun base h => exactly1_r 0 hl h hm)
  rw [mayN_10 hk]
  simp only [blankB, reduceIte, Bool.false_eq_true]
  simp only [head_t, head_f, line_eq, one01, one02, one0123, one123, len1, len2, len0, lenh1, lenh2, sec_t, sec_g, sec_i, sec_0] at hr
  simp only [Bool.true_or, Bool.false_or, Bool.and_true, Bool.true_and] at hr ⊢
  refine hr.mono fun v h' q => ⟨q.1.trans (congrArg V.bool (by ac_rfl)), q.2⟩
set_option maxHeartbeats 1000000 in
theorem may_11 {base : Nat} {x : Nd} {lv : V} (h : Heap) (hl : LV lv x.l) (hm : ∀ y ∈ x.l, MayOk y) (hk : x.kind = 11) : WpF S0 base k_ast_may [.agg (ndC x lv)] h fun v h' => v = .bool (mayN nameB x) ∧ h' = h := by
  have hs : shapeOf x lv = shC true false false false (.fn (.func k_ast_none) [] []) (.fn (.func k_ast_one_1) [] [.eptr [.slc .lit 1 (([0, 2] : List Int).map fun (i : Int) => [V.sc (.int .i64 i)])] 0]) (.fn (.func k_ast_exactly_1) [] [.eptr [.sc (.int .i64 1)] 0]) := by unfold shapeOf; rw [hk]; rfl
  have hr := may_of (base := base) h hl true false false false k_ast_none k_ast_one_1 k_ast_exactly_1 [] [.eptr [.slc .lit 1 (([0, 2] : List Int).map fun (i : Int) => [V.sc (.int .i64 i)])] 0] [.eptr [.sc (.int .i64 1)] 0] (decide (x.n = 0)) (([0, 2] : List Int).contains x.ord) (decide ((x.l.length : Int) = 1) && allN nameB 20 24 x.l) hs (by rw [hk]; rfl) (fun base h => none_r x.n h) (fun base h => one1_r [0, 2] x.ord .lit h (by decide)) (fun base h => exactly1_r 1 hl h hm)
  rw [mayN_11 hk]
  simp only [blankB, reduceIte, Bool.false_eq_true]
  simp only [head_t, head_f, line_eq, one01, one02, one0123, one123, len1, len2, len0, lenh1, lenh2, sec_t, sec_g, sec_i, sec_0] at hr
  simp only [Bool.true_or, Bool.false_or, Bool.and_true, Bool.true_and] at hr ⊢
  refine hr.mono fun v h' q => ⟨q.1.trans (congrArg V.bool (by ac_rfl)), q.2⟩
set_option maxHeartbeats 1000000 in
theorem may_12 {base : Nat} {x : Nd} {lv : V} (h : Heap) (hl : LV lv x.l) (hm : ∀ y ∈ x.l, MayOk y) (hk : x.kind = 12) : WpF S0 base k_ast_may [.agg (ndC x lv)] h fun v h' => v = .bool (mayN nameB x) ∧ h' = h := by
  have hs : shapeOf x lv = shC true true false false (.fn (.func k_ast_of_5) [] []) (.fn (.func k_ast_one_1) [] [.eptr [.slc .lit 1 (([0, 1, 2, 3] : List Int).map fun (i : Int) => [V.sc (.int .i64 i)])] 0]) (.fn (.func k_ast_exactly_1) [] [.eptr [.sc (.int .i64 1)] 0]) := by unfold shapeOf; rw [hk]; rfl
  have hr := may_of (base := base) h hl true true false false k_ast_of_5 k_ast_one_1 k_ast_exactly_1 [] [.eptr [.slc .lit 1 (([0, 1, 2, 3] : List Int).map fun (i : Int) => [V.sc (.int .i64 i)])] 0] [.eptr [.sc (.int .i64 1)] 0] (decide (1 ≤ x.n ∧ x.n ≤ 7)) (([0, 1, 2, 3] : List Int).contains x.ord) (decide ((x.l.length : Int) = 1) && allN nameB 20 24 x.l) hs (by rw [hk]; rfl) (fun base h => of5_r x.n h) (fun base h => one1_r [0, 1, 2, 3] x.ord .lit h (by decide)) (fun base h => exactly1_r 1 hl h hm)
  rw [mayN_12 hk]
  simp only [blankB, reduceIte, Bool.false_eq_true]
  simp only [head_t, head_f, line_eq, one01, one02, one0123, one123, len1, len2, len0, lenh1, lenh2, sec_t, sec_g, sec_i, sec_0] at hr
  simp only [Bool.true_or, Bool.false_or, Bool.and_true, Bool.true_and] at hr ⊢
  refine hr.mono fun v h' q => ⟨q.1.trans (congrArg V.bool (by ac_rfl)), q.2⟩
set_option maxHeartbeats 1000000 in
theorem may_13 {base : Nat} {x : Nd} {lv : V} (h : Heap) (hl : LV lv x.l) (hm : ∀ y ∈ x.l, MayOk y) (hk : x.kind = 13) : WpF S0 base k_ast_may [.agg (ndC x lv)] h fun v h' => v = .bool (mayN nameB x) ∧ h' = h := by
  have hs : shapeOf x lv = shC true true false false (.fn (.func k_ast_none) [] []) (.fn (.func k_ast_one_1) [] [.eptr [.slc .lit 1 (([0, 1, 2, 3] : List Int).map fun (i : Int) => [V.sc (.int .i64 i)])] 0]) (.fn (.func k_ast_exactly_1) [] [.eptr [.sc (.int .i64 2)] 0]) := by unfold shapeOf; rw [hk]; rfl
  have hr := may_of (base := base) h hl true true false false k_ast_none k_ast_one_1 k_ast_exactly_1 [] [.eptr [.slc .lit 1 (([0, 1, 2, 3] : List Int).map fun (i : Int) => [V.sc (.int .i64 i)])] 0] [.eptr [.sc (.int .i64 2)] 0] (decide (x.n = 0)) (([0, 1, 2, 3] : List Int).contains x.ord) (decide ((x.l.length : Int) = 2) && allN nameB 20 24 x.l) hs (by rw [hk]; rfl) (fun base h => none_r x.n h) (fun base h => one1_r [0, 1, 2, 3] x.ord .lit h (by decide)) (fun base h => exactly1_r 2 hl h hm)
  rw [mayN_13 hk]
  simp only [blankB, reduceIte, Bool.false_eq_true]
  simp only [head_t, head_f, line_eq, one01, one02, one0123, one123, len1, len2, len0, lenh1, lenh2, sec_t, sec_g, sec_i, sec_0] at hr
  simp only [Bool.true_or, Bool.false_or, Bool.and_true, Bool.true_and] at hr ⊢
  refine hr.mono fun v h' q => ⟨q.1.trans (congrArg V.bool (by ac_rfl)), q.2⟩
set_option maxHeartbeats 1000000 in
theorem may_14 {base : Nat} {x : Nd} {lv : V} (h : Heap) (hl : LV lv x.l) (hm : ∀ y ∈ x.l, MayOk y) (hk : x.kind = 14) : WpF S0 base k_ast_may [.agg (ndC x lv)] h fun v h' => v = .bool (mayN nameB x) ∧ h' = h := by
  have hs : shapeOf x lv = shC false false false false (.fn (.func k_ast_none) [] []) (.fn (.func k_ast_one_1) [] [.eptr [.slc .lit 1 (([1, 2, 3] : List Int).map fun (i : Int) => [V.sc (.int .i64 i)])] 0]) (.fn (.func k_ast_exactly_1) [] [.eptr [.sc (.int .i64 0)] 0]) := by unfold shapeOf; rw [hk]; rfl
  have hr := may_of (base := base) h hl false false false false k_ast_none k_ast_one_1 k_ast_exactly_1 [] [.eptr [.slc .lit 1 (([1, 2, 3] : List Int).map fun (i : Int) => [V.sc (.int .i64 i)])] 0] [.eptr [.sc (.int .i64 0)] 0] (decide (x.n = 0)) (([1, 2, 3] : List Int).contains x.ord) (decide ((x.l.length : Int) = 0) && allN nameB 20 24 x.l) hs (by rw [hk]; rfl) (fun base h => none_r x.n h) (fun base h => one1_r [1, 2, 3] x.ord .lit h (by decide)) (fun base h => exactly1_r 0 hl h hm)
  rw [mayN_14 hk]
  simp only [blankB, reduceIte, Bool.false_eq_true]
  simp only [head_t, head_f, line_eq, one01, one02, one0123, one123, len1, len2, len0, lenh1, lenh2, sec_t, sec_g, sec_i, sec_0] at hr
  simp only [Bool.true_or, Bool.false_or, Bool.and_true, Bool.true_and] at hr ⊢
  refine hr.mono fun v h' q => ⟨q.1.trans (congrArg V.bool (by ac_rfl)), q.2⟩
set_option maxHeartbeats 1000000 in
theorem may_15 {base : Nat} {x : Nd} {lv : V} (h : Heap) (hl : LV lv x.l) (hm : ∀ y ∈ x.l, MayOk y) (hk : x.kind = 15) : WpF S0 base k_ast_may [.agg (ndC x lv)] h fun v h' => v = .bool (mayN nameB x) ∧ h' = h := by
  have hs : shapeOf x lv = shC false false false false (.fn (.func k_ast_none) [] []) (.fn (.func k_ast_none) [] []) (.fn (.func k_ast_headed_1) [] [.eptr [.sc (.int .i64 1)] 0, .eptr [.sc (.int .i64 2)] 0]) := by unfold shapeOf; rw [hk]; rfl
  have hr := may_of (base := base) h hl false false false false k_ast_none k_ast_none k_ast_headed_1 [] [] [.eptr [.sc (.int .i64 1)] 0, .eptr [.sc (.int .i64 2)] 0] (decide (x.n = 0)) (decide (x.ord = 0)) (decide (1 < (x.l.length : Int) ∧ (x.l.length : Int) ≤ 2 + 1) && headN nameB x.l) hs (by rw [hk]; rfl) (fun base h => none_r x.n h) (fun base h => none_r x.ord h) (fun base h => headed1_r 2 (by omega) (by omega) hl h hm)
  rw [mayN_15 hk]
  simp only [blankB, reduceIte, Bool.false_eq_true]
  simp only [head_t, head_f, line_eq, one01, one02, one0123, one123, len1, len2, len0, lenh1, lenh2, sec_t, sec_g, sec_i, sec_0] at hr
  simp only [Bool.true_or, Bool.false_or, Bool.and_true, Bool.true_and] at hr ⊢
  refine hr.mono fun v h' q => ⟨q.1.trans (congrArg V.bool (by ac_rfl)), q.2⟩
set_option maxHeartbeats 1000000 in
theorem may_16 {base : Nat} {x : Nd} {lv : V} (h : Heap) (hl : LV lv x.l) (hm : ∀ y ∈ x.l, MayOk y) (hk : x.kind = 16) : WpF S0 base k_ast_may [.agg (ndC x lv)] h fun v h' => v = .bool (mayN nameB x) ∧ h' = h := by
  have hs : shapeOf x lv = shC false false false false (.fn (.func k_ast_none) [] []) (.fn (.func k_ast_none) [] []) (.fn (.func k_ast_headed_1) [] [.eptr [.sc (.int .i64 1)] 0, .eptr [.sc (.int .i64 1)] 0]) := by unfold shapeOf; rw [hk]; rfl
  have hr := may_of (base := base) h hl false false false false k_ast_none k_ast_none k_ast_headed_1 [] [] [.eptr [.sc (.int .i64 1)] 0, .eptr [.sc (.int .i64 1)] 0] (decide (x.n = 0)) (decide (x.ord = 0)) (decide (1 < (x.l.length : Int) ∧ (x.l.length : Int) ≤ 1 + 1) && headN nameB x.l) hs (by rw [hk]; rfl) (fun base h => none_r x.n h) (fun base h => none_r x.ord h) (fun base h => headed1_r 1 (by omega) (by omega) hl h hm)
  rw [mayN_16 hk]
  simp only [blankB, reduceIte, Bool.false_eq_true]
  simp only [head_t, head_f, line_eq, one01, one02, one0123, one123, len1, len2, len0, lenh1, lenh2, sec_t, sec_g, sec_i, sec_0] at hr
  simp only [Bool.true_or, Bool.false_or, Bool.and_true, Bool.true_and] at hr ⊢
  refine hr.mono fun v h' q => ⟨q.1.trans (congrArg V.bool (by ac_rfl)), q.2⟩
set_option maxHeartbeats 1000000 in
theorem may_17 {base : Nat} {x : Nd} {lv : V} (h : Heap) (hl : LV lv x.l) (hm : ∀ y ∈ x.l, MayOk y) (hk : x.kind = 17) : WpF S0 base k_ast_may [.agg (ndC x lv)] h fun v h' => v = .bool (mayN nameB x) ∧ h' = h := by
  have hs : shapeOf x lv = shC false false false false (.fn (.func k_ast_none) [] []) (.fn (.func k_ast_none) [] []) (.fn (.func k_ast_exactly_1) [] [.eptr [.sc (.int .i64 1)] 0]) := by unfold shapeOf; rw [hk]; rfl
  have hr := may_of (base := base) h hl false false false false k_ast_none k_ast_none k_ast_exactly_1 [] [] [.eptr [.sc (.int .i64 1)] 0] (decide (x.n = 0)) (decide (x.ord = 0)) (decide ((x.l.length : Int) = 1) && allN nameB 20 24 x.l) hs (by rw [hk]; rfl) (fun base h => none_r x.n h) (fun base h => none_r x.ord h) (fun base h => exactly1_r 1 hl h hm)
  rw [mayN_17 hk]
  simp only [blankB, reduceIte, Bool.false_eq_true]
  simp only [head_t, head_f, line_eq, one01, one02, one0123, one123, len1, len2, len0, lenh1, lenh2, sec_t, sec_g, sec_i, sec_0] at hr
  simp only [Bool.true_or, Bool.false_or, Bool.and_true, Bool.true_and] at hr ⊢
  refine hr.mono fun v h' q => ⟨q.1.trans (congrArg V.bool (by ac_rfl)), q.2⟩
set_option maxHeartbeats 1000000 in
theorem may_18 {base : Nat} {x : Nd} {lv : V} (h : Heap) (hl : LV lv x.l) (hm : ∀ y ∈ x.l, MayOk y) (hk : x.kind = 18) : WpF S0 base k_ast_may [.agg (ndC x lv)] h fun v h' => v = .bool (mayN nameB x) ∧ h' = h := by
  have hs : shapeOf x lv = shC true true false false (.fn (.func k_ast_none) [] []) (.fn (.func k_ast_none) [] []) (.fn (.func k_ast_of_6) [] []) := by unfold shapeOf; rw [hk]; rfl
  have hr := may_of (base := base) h hl true true false false k_ast_none k_ast_none k_ast_of_6 [] [] [] (decide (x.n = 0)) (decide (x.ord = 0)) (allN nameB 20 24 x.l) hs (by rw [hk]; rfl) (fun base h => none_r x.n h) (fun base h => none_r x.ord h) (fun base h => of6_r hl h hm)
  rw [mayN_18 hk]
  simp only [blankB, reduceIte, Bool.false_eq_true]
  simp only [head_t, head_f, line_eq, one01, one02, one0123, one123, len1, len2, len0, lenh1, lenh2, sec_t, sec_g, sec_i, sec_0] at hr
  simp only [Bool.true_or, Bool.false_or, Bool.and_true, Bool.true_and] at hr ⊢
  refine hr.mono fun v h' q => ⟨q.1.trans (congrArg V.bool (by ac_rfl)), q.2⟩
set_option maxHeartbeats 1000000 in
theorem may_19 {base : Nat} {x : Nd} {lv : V} (h : Heap) (hl : LV lv x.l) (hm : ∀ y ∈ x.l, MayOk y) (hk : x.kind = 19) : WpF S0 base k_ast_may [.agg (ndC x lv)] h fun v h' => v = .bool (mayN nameB x) ∧ h' = h := by
  have hs : shapeOf x lv = shC false false false false (.fn (.func k_ast_none) [] []) (.fn (.func k_ast_none) [] []) (.fn (.func k_ast_exactly_1) [] [.eptr [.sc (.int .i64 0)] 0]) := by unfold shapeOf; rw [hk]; rfl
  have hr := may_of (base := base) h hl false false false false k_ast_none k_ast_none k_ast_exactly_1 [] [] [.eptr [.sc (.int .i64 0)] 0] (decide (x.n = 0)) (decide (x.ord = 0)) (decide ((x.l.length : Int) = 0) && allN nameB 20 24 x.l) hs (by rw [hk]; rfl) (fun base h => none_r x.n h) (fun base h => none_r x.ord h) (fun base h => exactly1_r 0 hl h hm)
  rw [mayN_19 hk]
  simp only [blankB, reduceIte, Bool.false_eq_true]
  simp only [head_t, head_f, line_eq, one01, one02, one0123, one123, len1, len2, len0, lenh1, lenh2, sec_t, sec_g, sec_i, sec_0] at hr
  simp only [Bool.true_or, Bool.false_or, Bool.and_true, Bool.true_and] at hr ⊢
  refine hr.mono fun v h' q => ⟨q.1.trans (congrArg V.bool (by ac_rfl)), q.2⟩
set_option maxHeartbeats 1000000 in
theorem may_20 {base : Nat} {x : Nd} {lv : V} (h : Heap) (hl : LV lv x.l) (hm : ∀ y ∈ x.l, MayOk y) (hk : x.kind = 20) : WpF S0 base k_ast_may [.agg (ndC x lv)] h fun v h' => v = .bool (mayN nameB x) ∧ h' = h := by
  have hs : shapeOf x lv = shC false false false false (.fn (.func k_ast_natural) [] []) (.fn (.func k_ast_none) [] []) (.fn (.func k_ast_exactly_1) [] [.eptr [.sc (.int .i64 0)] 0]) := by unfold shapeOf; rw [hk]; rfl
  have hr := may_of (base := base) h hl false false false false k_ast_natural k_ast_none k_ast_exactly_1 [] [] [.eptr [.sc (.int .i64 0)] 0] (decide (0 ≤ x.n)) (decide (x.ord = 0)) (decide ((x.l.length : Int) = 0) && allN nameB 20 24 x.l) hs (by rw [hk]; rfl) (fun base h => natural_r x.n h) (fun base h => none_r x.ord h) (fun base h => exactly1_r 0 hl h hm)
  rw [mayN_20 hk]
  simp only [blankB, reduceIte, Bool.false_eq_true]
  simp only [head_t, head_f, line_eq, one01, one02, one0123, one123, len1, len2, len0, lenh1, lenh2, sec_t, sec_g, sec_i, sec_0] at hr
  simp only [Bool.true_or, Bool.false_or, Bool.and_true, Bool.true_and] at hr ⊢
  refine hr.mono fun v h' q => ⟨q.1.trans (congrArg V.bool (by ac_rfl)), q.2⟩
set_option maxHeartbeats 1000000 in
theorem may_21 {base : Nat} {x : Nd} {lv : V} (h : Heap) (hl : LV lv x.l) (hm : ∀ y ∈ x.l, MayOk y) (hk : x.kind = 21) : WpF S0 base k_ast_may [.agg (ndC x lv)] h fun v h' => v = .bool (mayN nameB x) ∧ h' = h := by
  have hs : shapeOf x lv = shC true false false false (.fn (.func k_ast_none) [] []) (.fn (.func k_ast_none) [] []) (.fn (.func k_ast_exactly_1) [] [.eptr [.sc (.int .i64 0)] 0]) := by unfold shapeOf; rw [hk]; rfl
  have hr := may_of (base := base) h hl true false false false k_ast_none k_ast_none k_ast_exactly_1 [] [] [.eptr [.sc (.int .i64 0)] 0] (decide (x.n = 0)) (decide (x.ord = 0)) (decide ((x.l.length : Int) = 0) && allN nameB 20 24 x.l) hs (by rw [hk]; rfl) (fun base h => none_r x.n h) (fun base h => none_r x.ord h) (fun base h => exactly1_r 0 hl h hm)
  rw [mayN_21 hk]
  simp only [blankB, reduceIte, Bool.false_eq_true]
  simp only [head_t, head_f, line_eq, one01, one02, one0123, one123, len1, len2, len0, lenh1, lenh2, sec_t, sec_g, sec_i, sec_0] at hr
  simp only [Bool.true_or, Bool.false_or, Bool.and_true, Bool.true_and] at hr ⊢
  refine hr.mono fun v h' q => ⟨q.1.trans (congrArg V.bool (by ac_rfl)), q.2⟩
set_option maxHeartbeats 1000000 in
theorem may_22 {base : Nat} {x : Nd} {lv : V} (h : Heap) (hl : LV lv x.l) (hm : ∀ y ∈ x.l, MayOk y) (hk : x.kind = 22) : WpF S0 base k_ast_may [.agg (ndC x lv)] h fun v h' => v = .bool (mayN nameB x) ∧ h' = h := by
  have hs : shapeOf x lv = shC true false false false (.fn (.func k_ast_none) [] []) (.fn (.func k_ast_none) [] []) (.fn (.func k_ast_exactly_1) [] [.eptr [.sc (.int .i64 1)] 0]) := by unfold shapeOf; rw [hk]; rfl
  have hr := may_of (base := base) h hl true false false false k_ast_none k_ast_none k_ast_exactly_1 [] [] [.eptr [.sc (.int .i64 1)] 0] (decide (x.n = 0)) (decide (x.ord = 0)) (decide ((x.l.length : Int) = 1) && allN nameB 20 24 x.l) hs (by rw [hk]; rfl) (fun base h => none_r x.n h) (fun base h => none_r x.ord h) (fun base h => exactly1_r 1 hl h hm)
  rw [mayN_22 hk]
  simp only [blankB, reduceIte, Bool.false_eq_true]
  simp only [head_t, head_f, line_eq, one01, one02, one0123, one123, len1, len2, len0, lenh1, lenh2, sec_t, sec_g, sec_i, sec_0] at hr
  simp only [Bool.true_or, Bool.false_or, Bool.and_true, Bool.true_and] at hr ⊢
  refine hr.mono fun v h' q => ⟨q.1.trans (congrArg V.bool (by ac_rfl)), q.2⟩
set_option maxHeartbeats 1000000 in
theorem may_23 {base : Nat} {x : Nd} {lv : V} (h : Heap) (hl : LV lv x.l) (hm : ∀ y ∈ x.l, MayOk y) (hk : x.kind = 23) : WpF S0 base k_ast_may [.agg (ndC x lv)] h fun v h' => v = .bool (mayN nameB x) ∧ h' = h := by
  have hs : shapeOf x lv = shC false false true false (.fn (.func k_ast_none) [] []) (.fn (.func k_ast_none) [] []) (.fn (.func k_ast_exactly_1) [] [.eptr [.sc (.int .i64 2)] 0]) := by unfold shapeOf; rw [hk]; rfl
  have hr := may_of (base := base) h hl false false true false k_ast_none k_ast_none k_ast_exactly_1 [] [] [.eptr [.sc (.int .i64 2)] 0] (decide (x.n = 0)) (decide (x.ord = 0)) (decide ((x.l.length : Int) = 2) && allN nameB 20 24 x.l) hs (by rw [hk]; rfl) (fun base h => none_r x.n h) (fun base h => none_r x.ord h) (fun base h => exactly1_r 2 hl h hm)
  rw [mayN_23 hk]
  simp only [blankB, reduceIte, Bool.false_eq_true]
  simp only [head_t, head_f, line_eq, one01, one02, one0123, one123, len1, len2, len0, lenh1, lenh2, sec_t, sec_g, sec_i, sec_0] at hr
  simp only [Bool.true_or, Bool.false_or, Bool.and_true, Bool.true_and] at hr ⊢
  refine hr.mono fun v h' q => ⟨q.1.trans (congrArg V.bool (by ac_rfl)), q.2⟩
set_option maxHeartbeats 1000000 in
theorem may_24 {base : Nat} {x : Nd} {lv : V} (h : Heap) (hl : LV lv x.l) (hm : ∀ y ∈ x.l, MayOk y) (hk : x.kind = 24) : WpF S0 base k_ast_may [.agg (ndC x lv)] h fun v h' => v = .bool (mayN nameB x) ∧ h' = h := by
  have hs : shapeOf x lv = shC false false false true (.fn (.func k_ast_none) [] []) (.fn (.func k_ast_none) [] []) (.fn (.func k_ast_exactly_1) [] [.eptr [.sc (.int .i64 1)] 0]) := by unfold shapeOf; rw [hk]; rfl
  have hr := may_of (base := base) h hl false false false true k_ast_none k_ast_none k_ast_exactly_1 [] [] [.eptr [.sc (.int .i64 1)] 0] (decide (x.n = 0)) (decide (x.ord = 0)) (decide ((x.l.length : Int) = 1) && allN nameB 20 24 x.l) hs (by rw [hk]; rfl) (fun base h => none_r x.n h) (fun base h => none_r x.ord h) (fun base h => exactly1_r 1 hl h hm)
  rw [mayN_24 hk]
  simp only [blankB, reduceIte, Bool.false_eq_true]
  simp only [head_t, head_f, line_eq, one01, one02, one0123, one123, len1, len2, len0, lenh1, lenh2, sec_t, sec_g, sec_i, sec_0] at hr
  simp only [Bool.true_or, Bool.false_or, Bool.and_true, Bool.true_and] at hr ⊢
  refine hr.mono fun v h' q => ⟨q.1.trans (congrArg V.bool (by ac_rfl)), q.2⟩
theorem mayN_no {nm : ByteArray → Bool} {x : Nd} (hk : ¬ (1 ≤ x.kind ∧ x.kind ≤ 24)) : mayN nm x = false := by
  cases x with
  | mk k s t n o ln l =>
    simp only [Nd.kind] at hk
    unfold mayN
    rw [if_neg (by omega), if_neg (by omega), if_neg (by omega), if_neg (by omega), if_neg (by omega), if_neg (by omega), if_neg (by omega), if_neg (by omega), if_neg (by omega), decide_eq_false (show ¬ (k = 2 ∨ k = 5 ∨ k = 6 ∨ k = 10 ∨ k = 14 ∨ k = 19 ∨ k = 20 ∨ k = 21) by omega), Bool.and_false, Bool.and_false]
theorem shapeOf_no {x : Nd} {lv : V} (hk : ¬ (1 ≤ x.kind ∧ x.kind ≤ 24)) : shapeOf x lv = Zs := by
  unfold shapeOf
  rw [if_neg (by omega), if_neg (by omega), if_neg (by omega), if_neg (by omega), if_neg (by omega), if_neg (by omega), if_neg (by omega), if_neg (by omega), if_neg (by omega), if_neg (by omega), if_neg (by omega), if_neg (by omega), if_neg (by omega), if_neg (by omega), if_neg (by omega), if_neg (by omega), if_neg (by omega), if_neg (by omega), if_neg (by omega), if_neg (by omega), if_neg (by omega), if_neg (by omega), if_neg (by omega), if_neg (by omega)]
theorem may_none {base : Nat} {x : Nd} {lv : V} (h : Heap) (hl : LV lv x.l) (hk : ¬ (1 ≤ x.kind ∧ x.kind ≤ 24)) : WpF S0 base k_ast_may [.agg (ndC x lv)] h fun v h' => v = .bool (mayN nameB x) ∧ h' = h := by
  first | refine WpF_pure (A := f_ast_may) rfl rfl rfl rfl ?_ | refine WpF_imp (A := f_ast_may) rfl rfl rfl rfl ?_
  simp only [f_ast_may, ndC]
  refine WpC_cut (fun en' h' => en' 1 = .eptr (ndC x lv) 0 ∧ en' 2 = .bool false ∧ h' = h) ?_ ?_
  · simp only [SQ, SQB, oneCell, AOp.opds, Nat.reduceAdd, step, Opd.get, reduceCtorEq, slcLen, bin, binInt, reduceIte, Nat.reduceEqDiff, IntKind.signed, indexV, asNat?, loadV, cutCells, unary, evRess, evRes1, oneOrTup, wrapV, target, getsO, boundO, sliceV, exTo, Cp.isFull, isNil, moveV, Int.reduceLE, Int.reduceLT, Int.reduceEq, Int.reduceBEq, Int.reduceGT, Int.reduceGE, Nat.reduceLT, Nat.reduceLeDiff, SQX, V.cells, hl.gr]
  rintro en1 h1 ⟨e1, e2, rfl⟩
  have ho : ∀ base, _ := fun base => of_r (base := base) h1 hl
  rw [shapeOf_no hk, show kindOk x.kind = false from decide_eq_false hk] at ho
  refine WpC_cut (fun en' h' => en' 4 = .bool false ∧ h' = h1 ++ [.box 71 Zs]) ?_ ?_
  · have hst := st1a (h := h1) (t := 71) (cs := Zs) (ds := Zs) rfl rfl rfl
    simp only [SQ, SQB, oneCell, AOp.opds, Nat.reduceAdd, step, Opd.get, reduceCtorEq, slcLen, bin, binInt, reduceIte, Nat.reduceEqDiff, IntKind.signed, indexV, asNat?, cutCells, unary, evRess, evRes1, oneOrTup, wrapV, target, getsO, boundO, sliceV, exTo, Cp.isFull, isNil, moveV, Int.reduceLE, Int.reduceLT, Int.reduceEq, Int.reduceBEq, Int.reduceGT, Int.reduceGE, Nat.reduceLT, Nat.reduceLeDiff, SQX, V.cells, e1, e2, agg_load (r := ndC x lv) rfl, callD_ret (ho _), hst]
  rintro en2 h2 ⟨f4, rfl⟩
  rw [mayN_no hk]
  simp only [SQ, SQB, oneCell, AOp.opds, Nat.reduceAdd, step, Opd.get, reduceCtorEq, slcLen, bin, binInt, reduceIte, Nat.reduceEqDiff, IntKind.signed, indexV, asNat?, loadV, cutCells, unary, evRess, evRes1, oneOrTup, wrapV, target, getsO, boundO, sliceV, exTo, Cp.isFull, isNil, moveV, Int.reduceLE, Int.reduceLT, Int.reduceEq, Int.reduceBEq, Int.reduceGT, Int.reduceGE, Nat.reduceLT, Nat.reduceLeDiff, SQX, V.cells, f4, List.take_left]
theorem may_r (n : Nat) : ∀ (x : Nd), szN x ≤ n → MayOk x := by
  refine n.rec (fun x hn => ?_) (fun n ih x hn => ?_)
  · cases x; simp [szN] at hn
  have hm : ∀ y ∈ x.l, MayOk y := fun y hy => ih y (by have := sz_child hy; omega)
  intro base cs h hv
  obtain ⟨lv, rfl, hl⟩ := hv.open
  by_cases k1 : x.kind = 1
  · exact may_1 h hl hm k1
  by_cases k2 : x.kind = 2
  · exact may_2 h hl hm k2
  by_cases k3 : x.kind = 3
  · exact may_3 h hl hm k3
  by_cases k4 : x.kind = 4
  · exact may_4 h hl hm k4
  by_cases k5 : x.kind = 5
  · exact may_5 h hl hm k5
  by_cases k6 : x.kind = 6
  · exact may_6 h hl hm k6
  by_cases k7 : x.kind = 7
  · exact may_7 h hl hm k7
  by_cases k8 : x.kind = 8
  · exact may_8 h hl hm k8
  by_cases k9 : x.kind = 9
  · exact may_9 h hl hm k9
  by_cases k10 : x.kind = 10
  · exact may_10 h hl hm k10
  by_cases k11 : x.kind = 11
  · exact may_11 h hl hm k11
  by_cases k12 : x.kind = 12
  · exact may_12 h hl hm k12
  by_cases k13 : x.kind = 13
  · exact may_13 h hl hm k13
  by_cases k14 : x.kind = 14
  · exact may_14 h hl hm k14
  by_cases k15 : x.kind = 15
  · exact may_15 h hl hm k15
  by_cases k16 : x.kind = 16
  · exact may_16 h hl hm k16
  by_cases k17 : x.kind = 17
  · exact may_17 h hl hm k17
  by_cases k18 : x.kind = 18
  · exact may_18 h hl hm k18
  by_cases k19 : x.kind = 19
  · exact may_19 h hl hm k19
  by_cases k20 : x.kind = 20
  · exact may_20 h hl hm k20
  by_cases k21 : x.kind = 21
  · exact may_21 h hl hm k21
  by_cases k22 : x.kind = 22
  · exact may_22 h hl hm k22
  by_cases k23 : x.kind = 23
  · exact may_23 h hl hm k23
  by_cases k24 : x.kind = 24
  · exact may_24 h hl hm k24
  exact may_none h hl (by omega)
theorem mayOk (x : Nd) : MayOk x := may_r _ x (Nat.le_refl _)
end Go.Am
end
section
/- Am: the program's May, whole. -/
set_option linter.unusedSimpArgs false
namespace Go.Am
set_option maxHeartbeats 1000000 in
theorem aMay_r {base : Nat} {x : Nd} {cs : List V} (h : Heap) (hv : NdV x cs) : WpF S0 base k_ast_May [.agg cs] h fun v h' => v = .bool (okK nameB 1 1 x) ∧ h' = h := by
  have hmay := fun base h => mayOk x base cs h hv
  obtain ⟨lv, rfl, hl⟩ := hv.open
  have he : okK nameB 1 1 x = (decide (x.kind = 1) && mayN nameB x) := by unfold okK; congr 1; rw [decide_eq_decide]; omega
  rw [he]
  first | refine WpF_pure (A := f_ast_May) rfl rfl rfl rfl ?_ | refine WpF_imp (A := f_ast_May) rfl rfl rfl rfl ?_
  simp only [f_ast_May]
  refine WpC_cut (fun en' h' => en' 1 = .eptr (ndC x lv) 0 ∧ h' = h) ?_ ?_
  · simp only [SQ, SQB, oneCell, AOp.opds, Nat.reduceAdd, step, Opd.get, reduceCtorEq, slcLen, bin, binInt, reduceIte, Nat.reduceEqDiff, IntKind.signed, indexV, asNat?, loadV, cutCells, unary, evRess, evRes1, oneOrTup, wrapV, target, getsO, boundO, sliceV, exTo, Cp.isFull, isNil, moveV, Int.reduceLE, Int.reduceLT, Int.reduceEq, Int.reduceBEq, Int.reduceGT, Int.reduceGE, Nat.reduceLT, Nat.reduceLeDiff, SQX, V.cells, hl.gr]
  rintro en1 h1 ⟨e1, rfl⟩
  cases hk : decide (x.kind = 1)
  · simp only [SQ, SQB, oneCell, AOp.opds, Nat.reduceAdd, step, Opd.get, reduceCtorEq, slcLen, bin, binInt, reduceIte, Nat.reduceEqDiff, IntKind.signed, indexV, asNat?, loadV, cutCells, unary, evRess, evRes1, oneOrTup, wrapV, target, getsO, boundO, sliceV, exTo, Cp.isFull, isNil, moveV, Int.reduceLE, Int.reduceLT, Int.reduceEq, Int.reduceBEq, Int.reduceGT, Int.reduceGE, Nat.reduceLT, Nat.reduceLeDiff, SQX, V.cells, e1, hk, Bool.false_and]
  · simp only [SQ, SQB, oneCell, AOp.opds, Nat.reduceAdd, step, Opd.get, reduceCtorEq, slcLen, bin, binInt, reduceIte, Nat.reduceEqDiff, IntKind.signed, indexV, asNat?, loadV, cutCells, unary, evRess, evRes1, oneOrTup, wrapV, target, getsO, boundO, sliceV, exTo, Cp.isFull, isNil, moveV, Int.reduceLE, Int.reduceLT, Int.reduceEq, Int.reduceBEq, Int.reduceGT, Int.reduceGE, Nat.reduceLT, Nat.reduceLeDiff, SQX, V.cells, e1, hk, take7, callD_ret (hmay _ _)]
end Go.Am
end
section
/- Am: the item that a number names. -/
set_option linter.unusedSimpArgs false
namespace Go.Am
theorem LV.one {lv : V} {l : List Nd} (h : LV lv l) : oneCell lv = true := by
  rcases h with ⟨rfl, _⟩ | ⟨_, _, rfl, _⟩ <;> rfl
abbrev Zn : List V := [.sc (.int .i64 0), .sc (.string ⟨#[]⟩), .sc (.string ⟨#[]⟩), .sc (.int .i64 0), .sc (.int .i64 0), .sc (.int .i64 0), .sc (.slice none 0 0)]
def isItem (x : Nd) (i : Int) : Bool := okK nameB 1 1 x && decide (0 ≤ i ∧ i < x.l.length) && (match x.l[i.toNat]? with | some y => decide (y.kind ≠ 2) | none => false)
set_option maxHeartbeats 2000000 in
theorem citem_no {base : Nat} {x : Nd} {lv : V} (i : Int) (h : Heap) (hv : NdV x (ndC x lv)) (hl : LV lv x.l) (hn : isItem x i = false) : WpF S0 base k_check_item [.agg (ndC x lv), .sc (.int .i64 i)] h fun v h' => v = .tup [.agg Zn, .bool false] ∧ h' = h := by
  have hmay := fun base h => aMay_r (base := base) h hv
  have ll := hl.len
  have lt := hl.lt
  first | refine WpF_pure (A := f_check_item) rfl rfl rfl rfl ?_ | refine WpF_imp (A := f_check_item) rfl rfl rfl rfl ?_
  simp only [f_check_item, ndC]
  refine WpC_cut (fun en' h' => en' 2 = .eptr (ndC x lv) 0 ∧ en' 1 = .sc (.int .i64 i) ∧ en' 4 = .ptr h.length 0 ∧ h' = h ++ [.box 24 Zn]) ?_ ?_
  · simp only [SQ, SQB, oneCell, AOp.opds, Nat.reduceAdd, step, Opd.get, reduceCtorEq, slcLen, bin, binInt, reduceIte, Nat.reduceEqDiff, IntKind.signed, indexV, asNat?, loadV, cutCells, unary, evRess, evRes1, oneOrTup, wrapV, target, getsO, boundO, sliceV, exTo, Cp.isFull, isNil, moveV, Int.reduceLE, Int.reduceLT, Int.reduceEq, Int.reduceBEq, Int.reduceGT, Int.reduceGE, Nat.reduceLT, Nat.reduceLeDiff, SQX, V.cells, hl.gr]
  rintro en1 h1 ⟨e2, e1, e4, rfl⟩
  have hz := st1a (h := h) (t := 24) (cs := Zn) (ds := Zn) rfl rfl rfl
  have fz : fillParts Zn [] = some Zn := rfl
  cases hm : okK nameB 1 1 x
  · rw [hm] at hmay
    simp only [SQ, SQB, oneCell, AOp.opds, Nat.reduceAdd, step, Opd.get, reduceCtorEq, slcLen, bin, binInt, reduceIte, Nat.reduceEqDiff, IntKind.signed, indexV, asNat?, loadV, cutCells, unary, evRess, evRes1, oneOrTup, wrapV, target, getsO, boundO, sliceV, exTo, Cp.isFull, isNil, moveV, Int.reduceLE, Int.reduceLT, Int.reduceEq, Int.reduceBEq, Int.reduceGT, Int.reduceGE, Nat.reduceLT, Nat.reduceLeDiff, SQX, V.cells, e1, e2, e4, take7, callD_ret (hmay _ _), fz, hz, at1_0, getParts, List.take_left]
  rw [hm] at hmay
  by_cases h0 : i < 0
  · have d0 := decide_eq_true h0
    simp only [SQ, SQB, oneCell, AOp.opds, Nat.reduceAdd, step, Opd.get, reduceCtorEq, bin, binInt, reduceIte, Nat.reduceEqDiff, IntKind.signed, indexV, asNat?, loadV, cutCells, unary, evRess, evRes1, oneOrTup, wrapV, target, getsO, boundO, sliceV, exTo, Cp.isFull, isNil, moveV, Int.reduceLE, Int.reduceLT, Int.reduceEq, Int.reduceBEq, Int.reduceGT, Int.reduceGE, Nat.reduceLT, Nat.reduceLeDiff, SQX, V.cells, e1, e2, e4, take7, callD_ret (hmay _ _), fz, hz, at1_0, getParts, List.take_left, d0]
  have d0 := decide_eq_false h0
  by_cases h1 : (x.l.length : Int) ≤ i
  · have d1 := decide_eq_true h1
    simp only [SQ, SQB, oneCell, AOp.opds, Nat.reduceAdd, step, Opd.get, reduceCtorEq, bin, binInt, reduceIte, Nat.reduceEqDiff, IntKind.signed, indexV, asNat?, loadV, cutCells, unary, evRess, evRes1, oneOrTup, wrapV, target, getsO, boundO, sliceV, exTo, Cp.isFull, isNil, moveV, Int.reduceLE, Int.reduceLT, Int.reduceEq, Int.reduceBEq, Int.reduceGT, Int.reduceGE, Nat.reduceLT, Nat.reduceLeDiff, SQX, V.cells, e1, e2, e4, take7, callD_ret (hmay _ _), fz, hz, at1_0, getParts, List.take_left, d0, ll, d1]
  have d1 := decide_eq_false h1
  obtain ⟨n, rfl⟩ : ∃ n : Nat, i = n := ⟨i.toNat, by omega⟩
  have hh : n < x.l.length := by omega
  obtain ⟨r, hr1, hr2⟩ := hl.get hh
  obtain ⟨lv2, rfl, _⟩ := hr2.open
  have k2 : x.l[n].kind = 2 := by
    unfold isItem at hn
    rw [hm, Int.toNat_natCast, List.getElem?_eq_getElem hh, decide_eq_true (show 0 ≤ (n : Int) ∧ (n : Int) < x.l.length by omega)] at hn
    simpa using hn
  have d2 := decide_eq_true k2
  have d0' : decide ((n : Int) < 0) = false := decide_eq_false (by omega)
  simp only [SQ, SQB, oneCell, AOp.opds, Nat.reduceAdd, step, Opd.get, reduceCtorEq, bin, binInt, reduceIte, Nat.reduceEqDiff, IntKind.signed, asNat?, loadV, cutCells, unary, evRess, evRes1, oneOrTup, wrapV, target, getsO, boundO, sliceV, exTo, Cp.isFull, isNil, moveV, Int.reduceLE, Int.reduceLT, Int.reduceEq, Int.reduceBEq, Int.reduceGT, Int.reduceGE, Nat.reduceLT, Nat.reduceLeDiff, SQX, V.cells, e1, e2, e4, take7, callD_ret (hmay _ _), fz, hz, at1_0, getParts, List.take_left, d0', ll, hh, Nat.not_le.2 hh, hr1, d2]
theorem citem_yes {base : Nat} {x : Nd} {lv : V} (n : Nat) (h : Heap) (hv : NdV x (ndC x lv)) (hl : LV lv x.l) (hh : n < x.l.length) (hm : okK nameB 1 1 x = true) (hk : x.l[n].kind ≠ 2) : ∃ lv2, LV lv2 x.l[n].l ∧ WpF S0 base k_check_item [.agg (ndC x lv), .sc (.int .i64 n)] h fun v h' => v = .tup [.agg (ndC x.l[n] lv2), .bool true] ∧ h' = h := by
  have hmay := fun base h => aMay_r (base := base) h hv
  rw [hm] at hmay
  have ll := hl.len
  have lt := hl.lt
  obtain ⟨r, hr1, hr2⟩ := hl.get hh
  obtain ⟨lv2, rfl, hl2⟩ := hr2.open
  refine ⟨lv2, hl2, ?_⟩
  first | refine WpF_pure (A := f_check_item) rfl rfl rfl rfl ?_ | refine WpF_imp (A := f_check_item) rfl rfl rfl rfl ?_
  simp only [f_check_item, ndC]
  refine WpC_cut (fun en' h' => en' 2 = .eptr (ndC x lv) 0 ∧ en' 1 = .sc (.int .i64 n) ∧ en' 4 = .ptr h.length 0 ∧ h' = h ++ [.box 24 Zn]) ?_ ?_
  · simp only [SQ, SQB, oneCell, AOp.opds, Nat.reduceAdd, step, Opd.get, reduceCtorEq, slcLen, bin, binInt, reduceIte, Nat.reduceEqDiff, IntKind.signed, indexV, asNat?, loadV, cutCells, unary, evRess, evRes1, oneOrTup, wrapV, target, getsO, boundO, sliceV, exTo, Cp.isFull, isNil, moveV, Int.reduceLE, Int.reduceLT, Int.reduceEq, Int.reduceBEq, Int.reduceGT, Int.reduceGE, Nat.reduceLT, Nat.reduceLeDiff, SQX, V.cells, hl.gr]
  rintro en1 h1 ⟨e2, e1, e4, rfl⟩
  have hz := st1a (h := h) (t := 24) (cs := Zn) (ds := ndC x.l[n] lv2) rfl rfl (by simp only [List.all_cons, List.all_nil, hl2.one]; rfl)
  have d2 := decide_eq_false hk
  have d0' : decide ((n : Int) < 0) = false := decide_eq_false (by omega)
  simp only [SQ, SQB, oneCell, AOp.opds, Nat.reduceAdd, step, Opd.get, reduceCtorEq, bin, binInt, reduceIte, Nat.reduceEqDiff, IntKind.signed, asNat?, loadV, cutCells, unary, evRess, evRes1, oneOrTup, wrapV, target, getsO, boundO, sliceV, exTo, Cp.isFull, isNil, moveV, Int.reduceLE, Int.reduceLT, Int.reduceEq, Int.reduceBEq, Int.reduceGT, Int.reduceGE, Nat.reduceLT, Nat.reduceLeDiff, SQX, V.cells, e1, e2, e4, take7, callD_ret (hmay _ _), hz, at1_0, List.take_left, d0', ll, hh, Nat.not_le.2 hh, hr1, d2, hl2.gr]
  rcases hl2 with ⟨rfl, _⟩ | ⟨ex, rows, rfl, _⟩
  · simp only [SQ, SQB, oneCell, AOp.opds, Nat.reduceAdd, step, Opd.get, reduceCtorEq, slcLen, bin, binInt, reduceIte, Nat.reduceEqDiff, IntKind.signed, indexV, asNat?, loadV, cutCells, unary, evRess, evRes1, oneOrTup, wrapV, target, getsO, boundO, sliceV, exTo, Cp.isFull, isNil, moveV, Int.reduceLE, Int.reduceLT, Int.reduceEq, Int.reduceBEq, Int.reduceGT, Int.reduceGE, Nat.reduceLT, Nat.reduceLeDiff, SQX, V.cells, V.nilS]
  · simp only [SQ, SQB, oneCell, AOp.opds, Nat.reduceAdd, step, Opd.get, reduceCtorEq, slcLen, bin, binInt, reduceIte, Nat.reduceEqDiff, IntKind.signed, indexV, asNat?, loadV, cutCells, unary, evRess, evRes1, oneOrTup, wrapV, target, getsO, boundO, sliceV, exTo, Cp.isFull, isNil, moveV, Int.reduceLE, Int.reduceLT, Int.reduceEq, Int.reduceBEq, Int.reduceGT, Int.reduceGE, Nat.reduceLT, Nat.reduceLeDiff, SQX, V.cells]
end Go.Am
end
