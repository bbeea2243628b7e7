/- The abstract machine and what is proved in it, part 13. -/
import Derived.Test.YtjjgpjlfnendaaaDoorAm12
set_option linter.unusedVariables false
set_option linter.unusedSimpArgs false
namespace Go.Am
section
set_option maxHeartbeats 8000000 in
theorem of_k20 {base : Nat} {x : Nd} {lv : V} (h : Heap) (hl : LV lv x.l) (c20 : x.kind = 20) : WpF S0 base k_ast_of [.agg (ndC x lv)] h fun v h' => v = .tup [.agg (zD x lv), .bool (kindOk x.kind)] ∧ h' = h := by
  first | refine zu (A := f_ast_of) rfl rfl rfl rfl ?_ | refine zB (A := f_ast_of) rfl rfl rfl rfl ?_
  simp only [f_ast_of, ndC]
  refine zw (fun en' h' => en' 1 = .eptr (ndC x lv) 0 ∧ en' 2 = .ptr h.length 0 ∧ en' 3 = .bool false ∧ h' = h ++ [.box 71 Zs]) ?_ ?_
  · simp only [SQ, SQB, zm, AOp.opds, step, Opd.get, zk, bin, zc, IntKind.signed, zi, zj, zl, zb, unary, ze, zd, za, zo, zr, zh, zf, zg, zp, Cp.isFull, isNil, zq, simprocAttr, -List.reduceReplicate, SQX, V.cells, hl.gr]
  rintro en1 h1 ⟨e1, e2, e3, rfl⟩
  refine zw (fun en' h' => en' 1 = en1 1 ∧ en' 2 = en1 2 ∧ en' 3 = en1 3 ∧ en' 4 = .ptr (h.length + 1) 0 ∧ h' = h ++ [.box 71 Zs, .box 71 Pl]) ?_ ?_
  · have hf : fillParts Zs [(4, 1, (.fn (.func zzs) [] [])), (5, 1, (.fn (.func zzs) [] [])), (6, 1, (.fn (.func zt) [] [.eptr [.sc (.int .i64 0)] 0]))] = some Pl := rfl
    have hs := stA (h := h) (A := .box 71 Zs) (t := 71) (cs := Zs) (r := []) (A' := .dead) (by simp) (ds := Pl) rfl rfl rfl
    simp only [SQ, SQB, zm, AOp.opds, step, Opd.get, zk, bin, zc, IntKind.signed, zi, zj, zl, zb, unary, ze, zd, za, zo, zr, zh, zf, zg, zp, Cp.isFull, isNil, zq, simprocAttr, -List.reduceReplicate, SQX, V.cells, zn (exactly_r _ _), getParts, hf, List.length_append, List.append_assoc, hs]
  rintro en2 h2 ⟨f1, f2, f3, f4, rfl⟩
  refine zw (fun en' h' => en' 1 = en1 1 ∧ en' 2 = en1 2 ∧ en' 3 = en1 3 ∧ en' 5 = .ptr (h.length + 2) 0 ∧ h' = h ++ [.box 71 Zs, .box 71 Pl, .box 71 Pl]) ?_ ?_
  · have hg : (h ++ [Obj.box 71 Zs, Obj.box 71 Pl])[h.length + 1]? = some (.box 71 Pl) := by simp
    have hs := st3_2a (h := h) (A := .box 71 Zs) (B := .box 71 Pl) (t := 71) (cs := Zs) (ds := Pl) rfl rfl rfl
    simp only [SQ, SQB, zm, AOp.opds, step, Opd.get, zk, bin, zc, IntKind.signed, zi, zj, zl, zb, unary, ze, zd, za, zo, zr, zh, zf, zg, zp, Cp.isFull, isNil, zq, simprocAttr, -List.reduceReplicate, SQX, V.cells, f1, f2, f3, f4, hg, zC, List.length_append, List.append_assoc, hs]
  rintro en3 h3 ⟨g1, g2, g3, g5, rfl⟩
  rw [e1] at g1
  rw [e2] at g2
  rw [e3] at g3
  have c1 : ¬ x.kind = 1 := by omega
  have c2 : ¬ x.kind = 2 := by omega
  have c3 : ¬ x.kind = 3 := by omega
  have c4 : ¬ x.kind = 4 := by omega
  have c5 : ¬ x.kind = 5 := by omega
  have c21 : ¬ x.kind = 21 := by omega
  have c6 : ¬ x.kind = 6 := by omega
  have c7 : ¬ x.kind = 7 := by omega
  have c8 : ¬ x.kind = 8 := by omega
  have c22 : ¬ x.kind = 22 := by omega
  have c9 : ¬ x.kind = 9 := by omega
  have c10 : ¬ x.kind = 10 := by omega
  have c11 : ¬ x.kind = 11 := by omega
  have c12 : ¬ x.kind = 12 := by omega
  have c13 : ¬ x.kind = 13 := by omega
  have c14 : ¬ x.kind = 14 := by omega
  have c15 : ¬ x.kind = 15 := by omega
  have c16 : ¬ x.kind = 16 := by omega
  have c17 : ¬ x.kind = 17 := by omega
  have c18 : ¬ x.kind = 18 := by omega
  have c19 : ¬ x.kind = 19 := by omega
  have fl1 : zv 1 (List.replicate 2 [V.sc (.int .i64 (0))]) [(0, V.sc (.int .i64 (0))), (1, V.sc (.int .i64 (1)))] = some [[V.sc (.int .i64 (0))], [V.sc (.int .i64 (1))]] := rfl
  have fl2 : zv 1 (List.replicate 2 [V.sc (.int .i64 (0))]) [(0, V.sc (.int .i64 (0))), (1, V.sc (.int .i64 (2)))] = some [[V.sc (.int .i64 (0))], [V.sc (.int .i64 (2))]] := rfl
  have fl3 : zv 1 (List.replicate 4 [V.sc (.int .i64 (0))]) [(0, V.sc (.int .i64 (0))), (1, V.sc (.int .i64 (1))), (2, V.sc (.int .i64 (2))), (3, V.sc (.int .i64 (3)))] = some [[V.sc (.int .i64 (0))], [V.sc (.int .i64 (1))], [V.sc (.int .i64 (2))], [V.sc (.int .i64 (3))]] := rfl
  have fl4 : zv 1 (List.replicate 3 [V.sc (.int .i64 (0))]) [(0, V.sc (.int .i64 (1))), (1, V.sc (.int .i64 (2))), (2, V.sc (.int .i64 (3)))] = some [[V.sc (.int .i64 (1))], [V.sc (.int .i64 (2))], [V.sc (.int .i64 (3))]] := rfl
  simp only [SQ, SQB, zm, AOp.opds, step, Opd.get, zk, bin, zc, IntKind.signed, zi, zj, zl, zb, unary, ze, zd, za, zo, zr, zh, zf, zg, zp, Cp.isFull, isNil, zq, simprocAttr, -List.reduceReplicate, SQX, V.cells, c1, c2, c3, c4, c5, c21, c6, c7, c8, c22, c9, c10, c11, c12, c13, c14, c15, c16, c17, c18, c19, c20, g1, g2, g3, g5, zn (exactly_r _ _), zn (headed_r _ _ _), zn (one_r _ _ _), st3_2s, st3_2f, at3_2, zC, st3_0a, at3_0, Frz_fn0, Frz_fn1, Frz_fn2, zD, kindOk, shC, List.set, getParts, getParts2, fl1, fl2, fl3, fl4, List.map_cons, List.map_nil, Option.bind_some, List.length_cons, List.length_nil, List.take_left]
set_option maxHeartbeats 8000000 in
theorem of_k23 {base : Nat} {x : Nd} {lv : V} (h : Heap) (hl : LV lv x.l) (c23 : x.kind = 23) : WpF S0 base k_ast_of [.agg (ndC x lv)] h fun v h' => v = .tup [.agg (zD x lv), .bool (kindOk x.kind)] ∧ h' = h := by
  first | refine zu (A := f_ast_of) rfl rfl rfl rfl ?_ | refine zB (A := f_ast_of) rfl rfl rfl rfl ?_
  simp only [f_ast_of, ndC]
  refine zw (fun en' h' => en' 1 = .eptr (ndC x lv) 0 ∧ en' 2 = .ptr h.length 0 ∧ en' 3 = .bool false ∧ h' = h ++ [.box 71 Zs]) ?_ ?_
  · simp only [SQ, SQB, zm, AOp.opds, step, Opd.get, zk, bin, zc, IntKind.signed, zi, zj, zl, zb, unary, ze, zd, za, zo, zr, zh, zf, zg, zp, Cp.isFull, isNil, zq, simprocAttr, -List.reduceReplicate, SQX, V.cells, hl.gr]
  rintro en1 h1 ⟨e1, e2, e3, rfl⟩
  refine zw (fun en' h' => en' 1 = en1 1 ∧ en' 2 = en1 2 ∧ en' 3 = en1 3 ∧ en' 4 = .ptr (h.length + 1) 0 ∧ h' = h ++ [.box 71 Zs, .box 71 Pl]) ?_ ?_
  · have hf : fillParts Zs [(4, 1, (.fn (.func zzs) [] [])), (5, 1, (.fn (.func zzs) [] [])), (6, 1, (.fn (.func zt) [] [.eptr [.sc (.int .i64 0)] 0]))] = some Pl := rfl
    have hs := stA (h := h) (A := .box 71 Zs) (t := 71) (cs := Zs) (r := []) (A' := .dead) (by simp) (ds := Pl) rfl rfl rfl
    simp only [SQ, SQB, zm, AOp.opds, step, Opd.get, zk, bin, zc, IntKind.signed, zi, zj, zl, zb, unary, ze, zd, za, zo, zr, zh, zf, zg, zp, Cp.isFull, isNil, zq, simprocAttr, -List.reduceReplicate, SQX, V.cells, zn (exactly_r _ _), getParts, hf, List.length_append, List.append_assoc, hs]
  rintro en2 h2 ⟨f1, f2, f3, f4, rfl⟩
  refine zw (fun en' h' => en' 1 = en1 1 ∧ en' 2 = en1 2 ∧ en' 3 = en1 3 ∧ en' 5 = .ptr (h.length + 2) 0 ∧ h' = h ++ [.box 71 Zs, .box 71 Pl, .box 71 Pl]) ?_ ?_
  · have hg : (h ++ [Obj.box 71 Zs, Obj.box 71 Pl])[h.length + 1]? = some (.box 71 Pl) := by simp
    have hs := st3_2a (h := h) (A := .box 71 Zs) (B := .box 71 Pl) (t := 71) (cs := Zs) (ds := Pl) rfl rfl rfl
    simp only [SQ, SQB, zm, AOp.opds, step, Opd.get, zk, bin, zc, IntKind.signed, zi, zj, zl, zb, unary, ze, zd, za, zo, zr, zh, zf, zg, zp, Cp.isFull, isNil, zq, simprocAttr, -List.reduceReplicate, SQX, V.cells, f1, f2, f3, f4, hg, zC, List.length_append, List.append_assoc, hs]
  rintro en3 h3 ⟨g1, g2, g3, g5, rfl⟩
  rw [e1] at g1
  rw [e2] at g2
  rw [e3] at g3
  have c1 : ¬ x.kind = 1 := by omega
  have c2 : ¬ x.kind = 2 := by omega
  have c3 : ¬ x.kind = 3 := by omega
  have c4 : ¬ x.kind = 4 := by omega
  have c5 : ¬ x.kind = 5 := by omega
  have c21 : ¬ x.kind = 21 := by omega
  have c6 : ¬ x.kind = 6 := by omega
  have c7 : ¬ x.kind = 7 := by omega
  have c8 : ¬ x.kind = 8 := by omega
  have c22 : ¬ x.kind = 22 := by omega
  have c9 : ¬ x.kind = 9 := by omega
  have c10 : ¬ x.kind = 10 := by omega
  have c11 : ¬ x.kind = 11 := by omega
  have c12 : ¬ x.kind = 12 := by omega
  have c13 : ¬ x.kind = 13 := by omega
  have c14 : ¬ x.kind = 14 := by omega
  have c15 : ¬ x.kind = 15 := by omega
  have c16 : ¬ x.kind = 16 := by omega
  have c17 : ¬ x.kind = 17 := by omega
  have c18 : ¬ x.kind = 18 := by omega
  have c19 : ¬ x.kind = 19 := by omega
  have c20 : ¬ x.kind = 20 := by omega
  have fl1 : zv 1 (List.replicate 2 [V.sc (.int .i64 (0))]) [(0, V.sc (.int .i64 (0))), (1, V.sc (.int .i64 (1)))] = some [[V.sc (.int .i64 (0))], [V.sc (.int .i64 (1))]] := rfl
  have fl2 : zv 1 (List.replicate 2 [V.sc (.int .i64 (0))]) [(0, V.sc (.int .i64 (0))), (1, V.sc (.int .i64 (2)))] = some [[V.sc (.int .i64 (0))], [V.sc (.int .i64 (2))]] := rfl
  have fl3 : zv 1 (List.replicate 4 [V.sc (.int .i64 (0))]) [(0, V.sc (.int .i64 (0))), (1, V.sc (.int .i64 (1))), (2, V.sc (.int .i64 (2))), (3, V.sc (.int .i64 (3)))] = some [[V.sc (.int .i64 (0))], [V.sc (.int .i64 (1))], [V.sc (.int .i64 (2))], [V.sc (.int .i64 (3))]] := rfl
  have fl4 : zv 1 (List.replicate 3 [V.sc (.int .i64 (0))]) [(0, V.sc (.int .i64 (1))), (1, V.sc (.int .i64 (2))), (2, V.sc (.int .i64 (3)))] = some [[V.sc (.int .i64 (1))], [V.sc (.int .i64 (2))], [V.sc (.int .i64 (3))]] := rfl
  simp only [SQ, SQB, zm, AOp.opds, step, Opd.get, zk, bin, zc, IntKind.signed, zi, zj, zl, zb, unary, ze, zd, za, zo, zr, zh, zf, zg, zp, Cp.isFull, isNil, zq, simprocAttr, -List.reduceReplicate, SQX, V.cells, c1, c2, c3, c4, c5, c21, c6, c7, c8, c22, c9, c10, c11, c12, c13, c14, c15, c16, c17, c18, c19, c20, c23, g1, g2, g3, g5, zn (exactly_r _ _), zn (headed_r _ _ _), zn (one_r _ _ _), st3_2s, st3_2f, at3_2, zC, st3_0a, at3_0, Frz_fn0, Frz_fn1, Frz_fn2, zD, kindOk, shC, List.set, getParts, getParts2, fl1, fl2, fl3, fl4, List.map_cons, List.map_nil, Option.bind_some, List.length_cons, List.length_nil, List.take_left]
set_option maxHeartbeats 8000000 in
theorem of_k24 {base : Nat} {x : Nd} {lv : V} (h : Heap) (hl : LV lv x.l) (c24 : x.kind = 24) : WpF S0 base k_ast_of [.agg (ndC x lv)] h fun v h' => v = .tup [.agg (zD x lv), .bool (kindOk x.kind)] ∧ h' = h := by
  first | refine zu (A := f_ast_of) rfl rfl rfl rfl ?_ | refine zB (A := f_ast_of) rfl rfl rfl rfl ?_
  simp only [f_ast_of, ndC]
  refine zw (fun en' h' => en' 1 = .eptr (ndC x lv) 0 ∧ en' 2 = .ptr h.length 0 ∧ en' 3 = .bool false ∧ h' = h ++ [.box 71 Zs]) ?_ ?_
  · simp only [SQ, SQB, zm, AOp.opds, step, Opd.get, zk, bin, zc, IntKind.signed, zi, zj, zl, zb, unary, ze, zd, za, zo, zr, zh, zf, zg, zp, Cp.isFull, isNil, zq, simprocAttr, -List.reduceReplicate, SQX, V.cells, hl.gr]
  rintro en1 h1 ⟨e1, e2, e3, rfl⟩
  refine zw (fun en' h' => en' 1 = en1 1 ∧ en' 2 = en1 2 ∧ en' 3 = en1 3 ∧ en' 4 = .ptr (h.length + 1) 0 ∧ h' = h ++ [.box 71 Zs, .box 71 Pl]) ?_ ?_
  · have hf : fillParts Zs [(4, 1, (.fn (.func zzs) [] [])), (5, 1, (.fn (.func zzs) [] [])), (6, 1, (.fn (.func zt) [] [.eptr [.sc (.int .i64 0)] 0]))] = some Pl := rfl
    have hs := stA (h := h) (A := .box 71 Zs) (t := 71) (cs := Zs) (r := []) (A' := .dead) (by simp) (ds := Pl) rfl rfl rfl
    simp only [SQ, SQB, zm, AOp.opds, step, Opd.get, zk, bin, zc, IntKind.signed, zi, zj, zl, zb, unary, ze, zd, za, zo, zr, zh, zf, zg, zp, Cp.isFull, isNil, zq, simprocAttr, -List.reduceReplicate, SQX, V.cells, zn (exactly_r _ _), getParts, hf, List.length_append, List.append_assoc, hs]
  rintro en2 h2 ⟨f1, f2, f3, f4, rfl⟩
  refine zw (fun en' h' => en' 1 = en1 1 ∧ en' 2 = en1 2 ∧ en' 3 = en1 3 ∧ en' 5 = .ptr (h.length + 2) 0 ∧ h' = h ++ [.box 71 Zs, .box 71 Pl, .box 71 Pl]) ?_ ?_
  · have hg : (h ++ [Obj.box 71 Zs, Obj.box 71 Pl])[h.length + 1]? = some (.box 71 Pl) := by simp
    have hs := st3_2a (h := h) (A := .box 71 Zs) (B := .box 71 Pl) (t := 71) (cs := Zs) (ds := Pl) rfl rfl rfl
    simp only [SQ, SQB, zm, AOp.opds, step, Opd.get, zk, bin, zc, IntKind.signed, zi, zj, zl, zb, unary, ze, zd, za, zo, zr, zh, zf, zg, zp, Cp.isFull, isNil, zq, simprocAttr, -List.reduceReplicate, SQX, V.cells, f1, f2, f3, f4, hg, zC, List.length_append, List.append_assoc, hs]
  rintro en3 h3 ⟨g1, g2, g3, g5, rfl⟩
  rw [e1] at g1
  rw [e2] at g2
  rw [e3] at g3
  have c1 : ¬ x.kind = 1 := by omega
  have c2 : ¬ x.kind = 2 := by omega
  have c3 : ¬ x.kind = 3 := by omega
  have c4 : ¬ x.kind = 4 := by omega
  have c5 : ¬ x.kind = 5 := by omega
  have c21 : ¬ x.kind = 21 := by omega
  have c6 : ¬ x.kind = 6 := by omega
  have c7 : ¬ x.kind = 7 := by omega
  have c8 : ¬ x.kind = 8 := by omega
  have c22 : ¬ x.kind = 22 := by omega
  have c9 : ¬ x.kind = 9 := by omega
  have c10 : ¬ x.kind = 10 := by omega
  have c11 : ¬ x.kind = 11 := by omega
  have c12 : ¬ x.kind = 12 := by omega
  have c13 : ¬ x.kind = 13 := by omega
  have c14 : ¬ x.kind = 14 := by omega
  have c15 : ¬ x.kind = 15 := by omega
  have c16 : ¬ x.kind = 16 := by omega
  have c17 : ¬ x.kind = 17 := by omega
  have c18 : ¬ x.kind = 18 := by omega
  have c19 : ¬ x.kind = 19 := by omega
  have c20 : ¬ x.kind = 20 := by omega
  have c23 : ¬ x.kind = 23 := by omega
  have fl1 : zv 1 (List.replicate 2 [V.sc (.int .i64 (0))]) [(0, V.sc (.int .i64 (0))), (1, V.sc (.int .i64 (1)))] = some [[V.sc (.int .i64 (0))], [V.sc (.int .i64 (1))]] := rfl
  have fl2 : zv 1 (List.replicate 2 [V.sc (.int .i64 (0))]) [(0, V.sc (.int .i64 (0))), (1, V.sc (.int .i64 (2)))] = some [[V.sc (.int .i64 (0))], [V.sc (.int .i64 (2))]] := rfl
  have fl3 : zv 1 (List.replicate 4 [V.sc (.int .i64 (0))]) [(0, V.sc (.int .i64 (0))), (1, V.sc (.int .i64 (1))), (2, V.sc (.int .i64 (2))), (3, V.sc (.int .i64 (3)))] = some [[V.sc (.int .i64 (0))], [V.sc (.int .i64 (1))], [V.sc (.int .i64 (2))], [V.sc (.int .i64 (3))]] := rfl
  have fl4 : zv 1 (List.replicate 3 [V.sc (.int .i64 (0))]) [(0, V.sc (.int .i64 (1))), (1, V.sc (.int .i64 (2))), (2, V.sc (.int .i64 (3)))] = some [[V.sc (.int .i64 (1))], [V.sc (.int .i64 (2))], [V.sc (.int .i64 (3))]] := rfl
  simp only [SQ, SQB, zm, AOp.opds, step, Opd.get, zk, bin, zc, IntKind.signed, zi, zj, zl, zb, unary, ze, zd, za, zo, zr, zh, zf, zg, zp, Cp.isFull, isNil, zq, simprocAttr, -List.reduceReplicate, SQX, V.cells, c1, c2, c3, c4, c5, c21, c6, c7, c8, c22, c9, c10, c11, c12, c13, c14, c15, c16, c17, c18, c19, c20, c23, c24, g1, g2, g3, g5, zn (exactly_r _ _), zn (headed_r _ _ _), zn (one_r _ _ _), st3_2s, st3_2f, at3_2, zC, st3_0a, at3_0, Frz_fn0, Frz_fn1, Frz_fn2, zD, kindOk, shC, List.set, getParts, getParts2, fl1, fl2, fl3, fl4, List.map_cons, List.map_nil, Option.bind_some, List.length_cons, List.length_nil, List.take_left]
end
section
theorem of_r {base : Nat} {x : Nd} {lv : V} (h : Heap) (hl : LV lv x.l) : WpF S0 base k_ast_of [.agg (ndC x lv)] h fun v h' => v = .tup [.agg (zD x lv), .bool (kindOk x.kind)] ∧ h' = h := by
  by_cases c1 : x.kind = 1
  · exact of_k1 h hl c1
  by_cases c2 : x.kind = 2
  · exact of_k2 h hl c2
  by_cases c3 : x.kind = 3
  · exact of_k3 h hl c3
  by_cases c4 : x.kind = 4
  · exact of_k4 h hl c4
  by_cases c5 : x.kind = 5
  · exact of_k5 h hl c5
  by_cases c21 : x.kind = 21
  · exact of_k21 h hl c21
  by_cases c6 : x.kind = 6
  · exact of_k6 h hl c6
  by_cases c7 : x.kind = 7
  · exact of_k7 h hl c7
  by_cases c8 : x.kind = 8
  · exact of_k8 h hl c8
  by_cases c22 : x.kind = 22
  · exact of_k22 h hl c22
  by_cases c9 : x.kind = 9
  · exact of_k9 h hl c9
  by_cases c10 : x.kind = 10
  · exact of_k10 h hl c10
  by_cases c11 : x.kind = 11
  · exact of_k11 h hl c11
  by_cases c12 : x.kind = 12
  · exact of_k12 h hl c12
  by_cases c13 : x.kind = 13
  · exact of_k13 h hl c13
  by_cases c14 : x.kind = 14
  · exact of_k14 h hl c14
  by_cases c15 : x.kind = 15
  · exact of_k15 h hl c15
  by_cases c16 : x.kind = 16
  · exact of_k16 h hl c16
  by_cases c17 : x.kind = 17
  · exact of_k17 h hl c17
  by_cases c18 : x.kind = 18
  · exact of_k18 h hl c18
  by_cases c19 : x.kind = 19
  · exact of_k19 h hl c19
  by_cases c20 : x.kind = 20
  · exact of_k20 h hl c20
  by_cases c23 : x.kind = 23
  · exact of_k23 h hl c23
  by_cases c24 : x.kind = 24
  · exact of_k24 h hl c24
  exact of_no h hl (by omega)
end
section
section
variable {h : Heap} {t : TypeId} {cs : List V}
theorem at1_0 {A : Obj} : (h ++ [A])[h.length]? = some A := by simp
theorem st1a {ds : List V} (h7 : ds.length = 7) (h8 : cs.length = 7) (h1 : ds.all zm = true) : storeV h.length (h ++ [.box t cs]) 7 (.ptr h.length 0) (.agg ds) = some (h ++ [.box t ds]) := by
  refine (store_box (x := .agg ds) (n := 7) at1_0 h7 h1 (by omega) (by simp [mayStore])).trans ?_
  rw [show (V.agg ds).cells = ds from rfl, putAll h7 h8]
  simp [List.set_append_right]
end
set_option maxHeartbeats 4000000 in
theorem may_of {base : Nat} {x : Nd} {lv : V} (h : Heap) (hl : LV lv x.l) (z a c e : Bool) (kN kO kL : FuncId) (cN cO cL : List V) (N O L : Bool)
    (hs : zD x lv = shC z a c e (.fn (.func kN) [] cN) (.fn (.func kO) [] cO) (.fn (.func kL) [] cL)) (hk : kindOk x.kind = true)
    (hN : ∀ base h, WpF S0 base kN (.sc (.int .i64 x.n) :: cN) h fun v h' => v = .bool N ∧ h' = h)
    (hO : ∀ base h, WpF S0 base kO (.sc (.int .i64 x.ord) :: cO) h fun v h' => v = .bool O ∧ h' = h)
    (hL : ∀ base h, WpF S0 base kL (lv :: cL) h fun v h' => v = .bool L ∧ h' = h) :
    WpF S0 base k_ast_may [.agg (ndC x lv)] h fun v h' => v = .bool (!decide (x.line < 0) && (z == zA x.s) && (z || decide (x.s.size = 0)) && secondB a c e x.t && N && O && L) ∧ h' = h := by
  first | refine zu (A := f_ast_may) rfl rfl rfl rfl ?_ | refine zB (A := f_ast_may) rfl rfl rfl rfl ?_
  simp only [f_ast_may, ndC]
  refine zw (fun en' h' => en' 1 = .eptr (ndC x lv) 0 ∧ en' 2 = .bool false ∧ h' = h) ?_ ?_
  · simp only [SQ, SQB, zm, AOp.opds, step, Opd.get, zk, bin, zc, IntKind.signed, zi, zj, zl, zb, unary, ze, zd, za, zo, zr, zh, zf, zg, zp, Cp.isFull, isNil, zq, simprocAttr, SQX, V.cells, hl.gr]
  rintro en1 h1 ⟨e1, e2, rfl⟩
  have ho : ∀ base, _ := fun base => of_r (base := base) h1 hl
  rw [hs, hk] at ho
  refine zw (fun en' h' => en' 1 = .eptr (ndC x lv) 0 ∧ en' 3 = .ptr h1.length 0 ∧ en' 4 = .bool true ∧ h' = h1 ++ [.box 71 (shC z a c e (.fn (.func kN) [] cN) (.fn (.func kO) [] cO) (.fn (.func kL) [] cL))]) ?_ ?_
  · have hst := st1a (h := h1) (t := 71) (cs := Zs) (ds := shC z a c e (.fn (.func kN) [] cN) (.fn (.func kO) [] cO) (.fn (.func kL) [] cL)) rfl rfl rfl
    simp only [SQ, SQB, zm, AOp.opds, step, Opd.get, zk, bin, zc, IntKind.signed, zi, zj, zb, unary, ze, zd, za, zo, zr, zh, zf, zg, zp, Cp.isFull, isNil, zq, simprocAttr, SQX, V.cells, e1, e2, agg_load (r := ndC x lv) rfl, zn (ho _), hst]
  rintro en2 h2 ⟨f1, f3, f4, rfl⟩
  have ez := empty_list x.s
  have qa : (false == true) = false := rfl
  have qb : (true == false) = false := rfl
  by_cases hln : x.line < 0
  · have d1 := decide_eq_true hln
    simp only [SQ, SQB, zm, AOp.opds, step, Opd.get, zk, bin, zc, IntKind.signed, zi, zj, zl, zb, unary, ze, zd, za, zo, zr, zh, zf, zg, zp, Cp.isFull, isNil, zq, simprocAttr, SQX, V.cells, f1, f3, f4, hln, d1, List.take_left, qa, qb]
    first | done | rfl
  have d1 := decide_eq_false hln
  have hn1 := fun base h => name_r (base := base) x.s h
  cases hnm : zA x.s
  all_goals rw [hnm] at hn1
  all_goals cases z
  · by_cases hsz : x.s.size = 0
    · have d2 := decide_eq_true hsz
      have hsec := fun base h => second_r (base := base) false a c e (.fn (.func kN) [] cN) (.fn (.func kO) [] cO) (.fn (.func kL) [] cL) x.t h rfl rfl rfl
      cases h2 : secondB a c e x.t
      all_goals rw [h2] at hsec
      · simp only [SQ, SQB, zm, AOp.opds, step, Opd.get, zk, bin, zc, IntKind.signed, zi, zj, zl, zb, unary, ze, zd, za, zo, zr, zh, zf, zg, zp, Cp.isFull, isNil, zq, simprocAttr, SQX, V.cells, f1, f3, f4, hln, d1, at1_0, zE, ez, d2, zC, zn (hn1 _ _), zn (hsec _ _), List.take_left]
        first | done | rfl
      cases N
      · simp only [SQ, SQB, zm, AOp.opds, step, Opd.get, zk, bin, zc, IntKind.signed, zi, zj, zl, zb, unary, ze, zd, za, zo, zr, zh, zf, zg, zp, Cp.isFull, isNil, zq, simprocAttr, SQX, V.cells, f1, f3, f4, hln, d1, at1_0, zE, ez, d2, zC, zn (hn1 _ _), zn (hsec _ _), List.take_left, zn (hN _ _)]
        first | done | rfl
      cases O
      · simp only [SQ, SQB, zm, AOp.opds, step, Opd.get, zk, bin, zc, IntKind.signed, zi, zj, zl, zb, unary, ze, zd, za, zo, zr, zh, zf, zg, zp, Cp.isFull, isNil, zq, simprocAttr, SQX, V.cells, f1, f3, f4, hln, d1, at1_0, zE, ez, d2, zC, zn (hn1 _ _), zn (hsec _ _), List.take_left, zn (hN _ _), zn (hO _ _)]
        first | done | rfl
      · simp only [SQ, SQB, zm, AOp.opds, step, Opd.get, zk, bin, zc, IntKind.signed, zi, zj, zl, zb, unary, ze, zd, za, zo, zr, zh, zf, zg, zp, Cp.isFull, isNil, zq, simprocAttr, SQX, V.cells, f1, f3, f4, hln, d1, at1_0, zE, ez, d2, zC, zn (hn1 _ _), zn (hsec _ _), List.take_left, zn (hN _ _), zn (hO _ _), zn (hL _ _)]
        first | done | rfl
    · have d2 := decide_eq_false hsz
      simp only [SQ, SQB, zm, AOp.opds, step, Opd.get, zk, bin, zc, IntKind.signed, zi, zj, zl, zb, unary, ze, zd, za, zo, zr, zh, zf, zg, zp, Cp.isFull, isNil, zq, simprocAttr, SQX, V.cells, f1, f3, f4, hln, d1, at1_0, zE, ez, d2, zn (hn1 _ _), List.take_left]
      first | done | rfl
  · simp only [SQ, SQB, zm, AOp.opds, step, Opd.get, zk, bin, zc, IntKind.signed, zi, zj, zl, zb, unary, ze, zd, za, zo, zr, zh, zf, zg, zp, Cp.isFull, isNil, zq, simprocAttr, SQX, V.cells, f1, f3, f4, hln, d1, at1_0, zn (hn1 _ _), List.take_left, qa, qb]
    first | done | rfl
  · simp only [SQ, SQB, zm, AOp.opds, step, Opd.get, zk, bin, zc, IntKind.signed, zi, zj, zl, zb, unary, ze, zd, za, zo, zr, zh, zf, zg, zp, Cp.isFull, isNil, zq, simprocAttr, SQX, V.cells, f1, f3, f4, hln, d1, at1_0, zn (hn1 _ _), List.take_left, qa, qb]
    first | done | rfl
  · have hsec := fun base h => second_r (base := base) true a c e (.fn (.func kN) [] cN) (.fn (.func kO) [] cO) (.fn (.func kL) [] cL) x.t h rfl rfl rfl
    cases h2 : secondB a c e x.t
    all_goals rw [h2] at hsec
    · simp only [SQ, SQB, zm, AOp.opds, step, Opd.get, zk, bin, zc, IntKind.signed, zi, zj, zl, zb, unary, ze, zd, za, zo, zr, zh, zf, zg, zp, Cp.isFull, isNil, zq, simprocAttr, SQX, V.cells, f1, f3, f4, hln, d1, at1_0, zC, zn (hn1 _ _), zn (hsec _ _), List.take_left]
      first | done | rfl
    cases N
    · simp only [SQ, SQB, zm, AOp.opds, step, Opd.get, zk, bin, zc, IntKind.signed, zi, zj, zl, zb, unary, ze, zd, za, zo, zr, zh, zf, zg, zp, Cp.isFull, isNil, zq, simprocAttr, SQX, V.cells, f1, f3, f4, hln, d1, at1_0, zC, zn (hn1 _ _), zn (hsec _ _), List.take_left, zn (hN _ _)]
      first | done | rfl
    cases O
    · simp only [SQ, SQB, zm, AOp.opds, step, Opd.get, zk, bin, zc, IntKind.signed, zi, zj, zl, zb, unary, ze, zd, za, zo, zr, zh, zf, zg, zp, Cp.isFull, isNil, zq, simprocAttr, SQX, V.cells, f1, f3, f4, hln, d1, at1_0, zC, zn (hn1 _ _), zn (hsec _ _), List.take_left, zn (hN _ _), zn (hO _ _)]
      first | done | rfl
    · simp only [SQ, SQB, zm, AOp.opds, step, Opd.get, zk, bin, zc, IntKind.signed, zi, zj, zl, zb, unary, ze, zd, za, zo, zr, zh, zf, zg, zp, Cp.isFull, isNil, zq, simprocAttr, SQX, V.cells, f1, f3, f4, hln, d1, at1_0, zC, zn (hn1 _ _), zn (hsec _ _), List.take_left, zn (hN _ _), zn (hO _ _), zn (hL _ _)]
      first | done | rfl
end
section
theorem line_eq (n : Int) : (!decide (n < 0)) = decide (0 ≤ n) := by
  rw [← decide_not, decide_eq_decide]; omega
theorem nameB_empty {s : ByteArray} (h : s.size = 0) : zA s = false := by
  unfold zA
  rw [decide_eq_false (show ¬ (1 ≤ s.size ∧ s.size ≤ 32) by omega)]
  rfl
theorem head_t (p a d : Bool) : (p && (true == a) && (true || d)) = (p && a) := by cases p <;> cases a <;> rfl
theorem head_f (p : Bool) (s : ByteArray) : (p && (false == zA s) && (false || decide (s.size = 0))) = (p && decide (s.size = 0)) := by
  by_cases h : s.size = 0
  · rw [nameB_empty h, decide_eq_true h]; cases p <;> rfl
  · rw [decide_eq_false h]; cases p <;> simp
theorem one01 (o : Int) : [0, 1].contains o = decide (o = 0 ∨ o = 1) := by rw [Bool.eq_iff_iff]; simp
theorem one02 (o : Int) : [0, 2].contains o = decide (o = 0 ∨ o = 2) := by rw [Bool.eq_iff_iff]; simp
theorem one0123 (o : Int) : [0, 1, 2, 3].contains o = decide (0 ≤ o ∧ o ≤ 3) := by rw [Bool.eq_iff_iff]; simp; omega
theorem one123 (o : Int) : [1, 2, 3].contains o = decide (1 ≤ o ∧ o ≤ 3) := by rw [Bool.eq_iff_iff]; simp; omega
theorem len1 (l : List Nd) : decide ((l.length : Int) = 1) = decide (l.length = 1) := by rw [decide_eq_decide]; omega
theorem len2 (l : List Nd) : decide ((l.length : Int) = 2) = decide (l.length = 2) := by rw [decide_eq_decide]; omega
theorem len0 (l : List Nd) (lo hi : Int) : (decide ((l.length : Int) = 0) && allN zA lo hi l) = decide (l.length = 0) := by
  cases l with
  | nil => rfl
  | cons a r => simp; intro h; omega
theorem lenh1 (l : List Nd) : decide (1 < (l.length : Int) ∧ (l.length : Int) ≤ 1 + 1) = decide (l.length = 2) := by rw [decide_eq_decide]; omega
theorem lenh2 (l : List Nd) : decide (1 < (l.length : Int) ∧ (l.length : Int) ≤ 2 + 1) = decide (l.length = 2 ∨ l.length = 3) := by rw [decide_eq_decide]; omega
theorem sec_t (x : ByteArray) : secondB true false false x = zA x := rfl
theorem sec_g (x : ByteArray) : secondB false true false x = decide (0 < strengthN x.data.toList) := rfl
theorem sec_i (x : ByteArray) : secondB false false true x = decide (x.data.toList = [45] ∨ x.data.toList = [33] ∨ x.data.toList = [126]) := rfl
theorem sec_0 (x : ByteArray) : secondB false false false x = decide (x.size = 0) := rfl
set_option maxHeartbeats 1000000 in
theorem may_1 {base : Nat} {x : Nd} {lv : V} (h : Heap) (hl : LV lv x.l) (hm : ∀ y ∈ x.l, MayOk y) (hk : x.kind = 1) : WpF S0 base k_ast_may [.agg (ndC x lv)] h fun v h' => v = .bool (mayN zA x) ∧ h' = h := by
  have hs : zD x lv = shC false false false false (.fn (.func zzs) [] []) (.fn (.func zzs) [] []) (.fn (.func k_ast_of_1) [] []) := by unfold zD; rw [hk]; rfl
  have hr := may_of (base := base) h hl false false false false zzs zzs k_ast_of_1 [] [] [] (decide (x.n = 0)) (decide (x.ord = 0)) (allN zA 2 4 x.l) hs (by rw [hk]; rfl) (fun base h => none_r x.n h) (fun base h => none_r x.ord h) (fun base h => of1_r hl h hm)
  rw [mayN_1 hk]
  simp only [blankB, reduceIte, Bool.false_eq_true]
  simp only [head_t, head_f, line_eq, one01, one02, one0123, one123, len1, len2, len0, lenh1, lenh2, sec_t, sec_g, sec_i, sec_0] at hr
  simp only [Bool.true_or, Bool.false_or, Bool.and_true, Bool.true_and] at hr ⊢
  refine hr.mono fun v h' q => ⟨q.1.trans (congrArg V.bool (by ac_rfl)), q.2⟩
set_option maxHeartbeats 1000000 in
theorem may_2 {base : Nat} {x : Nd} {lv : V} (h : Heap) (hl : LV lv x.l) (hm : ∀ y ∈ x.l, MayOk y) (hk : x.kind = 2) : WpF S0 base k_ast_may [.agg (ndC x lv)] h fun v h' => v = .bool (mayN zA x) ∧ h' = h := by
  have hs : zD x lv = shC true false false false (.fn (.func k_ast_any1) [] []) (.fn (.func zzs) [] []) (.fn (.func zt) [] [.eptr [.sc (.int .i64 0)] 0]) := by unfold zD; rw [hk]; rfl
  have hr := may_of (base := base) h hl true false false false k_ast_any1 zzs zt [] [] [.eptr [.sc (.int .i64 0)] 0] (true) (decide (x.ord = 0)) (decide ((x.l.length : Int) = 0) && allN zA 20 24 x.l) hs (by rw [hk]; rfl) (fun base h => any1_r x.n h) (fun base h => none_r x.ord h) (fun base h => exactly1_r 0 hl h hm)
  rw [mayN_2 hk]
  simp only [blankB, reduceIte, Bool.false_eq_true]
  simp only [head_t, head_f, line_eq, one01, one02, one0123, one123, len1, len2, len0, lenh1, lenh2, sec_t, sec_g, sec_i, sec_0] at hr
  simp only [Bool.true_or, Bool.false_or, Bool.and_true, Bool.true_and] at hr ⊢
  refine hr.mono fun v h' q => ⟨q.1.trans (congrArg V.bool (by ac_rfl)), q.2⟩
set_option maxHeartbeats 1000000 in
theorem may_3 {base : Nat} {x : Nd} {lv : V} (h : Heap) (hl : LV lv x.l) (hm : ∀ y ∈ x.l, MayOk y) (hk : x.kind = 3) : WpF S0 base k_ast_may [.agg (ndC x lv)] h fun v h' => v = .bool (mayN zA x) ∧ h' = h := by
  have hs : zD x lv = shC true false false false (.fn (.func k_ast_natural) [] []) (.fn (.func zzs) [] []) (.fn (.func k_ast_of_2) [] [.eptr (ndC x lv) 0]) := by unfold zD; rw [hk]; rfl
  have hr := may_of (base := base) h hl true false false false k_ast_natural zzs k_ast_of_2 [] [] [.eptr (ndC x lv) 0] (decide (0 ≤ x.n)) (decide (x.ord = 0)) (lastN zA 5 5 x.l && decide (x.n < x.l.length)) hs (by rw [hk]; rfl) (fun base h => natural_r x.n h) (fun base h => none_r x.ord h) (fun base h => of2_r hl h hm)
  rw [mayN_3 hk]
  simp only [blankB, reduceIte, Bool.false_eq_true]
  simp only [head_t, head_f, line_eq, one01, one02, one0123, one123, len1, len2, len0, lenh1, lenh2, sec_t, sec_g, sec_i, sec_0] at hr
  simp only [Bool.true_or, Bool.false_or, Bool.and_true, Bool.true_and] at hr ⊢
  refine hr.mono fun v h' q => ⟨q.1.trans (congrArg V.bool (by ac_rfl)), q.2⟩
set_option maxHeartbeats 1000000 in
theorem may_4 {base : Nat} {x : Nd} {lv : V} (h : Heap) (hl : LV lv x.l) (hm : ∀ y ∈ x.l, MayOk y) (hk : x.kind = 4) : WpF S0 base k_ast_may [.agg (ndC x lv)] h fun v h' => v = .bool (mayN zA x) ∧ h' = h := by
  have hs : zD x lv = shC false false false false (.fn (.func zzs) [] []) (.fn (.func zzs) [] []) (.fn (.func k_ast_of_3) [] []) := by unfold zD; rw [hk]; rfl
  have hr := may_of (base := base) h hl false false false false zzs zzs k_ast_of_3 [] [] [] (decide (x.n = 0)) (decide (x.ord = 0)) (lastN zA 5 6 x.l) hs (by rw [hk]; rfl) (fun base h => none_r x.n h) (fun base h => none_r x.ord h) (fun base h => of3_r hl h hm)
  rw [mayN_4 hk]
  simp only [blankB, reduceIte, Bool.false_eq_true]
  simp only [head_t, head_f, line_eq, one01, one02, one0123, one123, len1, len2, len0, lenh1, lenh2, sec_t, sec_g, sec_i, sec_0] at hr
  simp only [Bool.true_or, Bool.false_or, Bool.and_true, Bool.true_and] at hr ⊢
  refine hr.mono fun v h' q => ⟨q.1.trans (congrArg V.bool (by ac_rfl)), q.2⟩
set_option maxHeartbeats 1000000 in
theorem may_5 {base : Nat} {x : Nd} {lv : V} (h : Heap) (hl : LV lv x.l) (hm : ∀ y ∈ x.l, MayOk y) (hk : x.kind = 5) : WpF S0 base k_ast_may [.agg (ndC x lv)] h fun v h' => v = .bool (mayN zA x) ∧ h' = h := by
  have hs : zD x lv = shC true false false false (.fn (.func zzs) [] []) (.fn (.func zzs) [] []) (.fn (.func zt) [] [.eptr [.sc (.int .i64 0)] 0]) := by unfold zD; rw [hk]; rfl
  have hr := may_of (base := base) h hl true false false false zzs zzs zt [] [] [.eptr [.sc (.int .i64 0)] 0] (decide (x.n = 0)) (decide (x.ord = 0)) (decide ((x.l.length : Int) = 0) && allN zA 20 24 x.l) hs (by rw [hk]; rfl) (fun base h => none_r x.n h) (fun base h => none_r x.ord h) (fun base h => exactly1_r 0 hl h hm)
  rw [mayN_5 hk]
  simp only [blankB, reduceIte, Bool.false_eq_true]
  simp only [head_t, head_f, line_eq, one01, one02, one0123, one123, len1, len2, len0, lenh1, lenh2, sec_t, sec_g, sec_i, sec_0] at hr
  simp only [Bool.true_or, Bool.false_or, Bool.and_true, Bool.true_and] at hr ⊢
  refine hr.mono fun v h' q => ⟨q.1.trans (congrArg V.bool (by ac_rfl)), q.2⟩
set_option maxHeartbeats 1000000 in
theorem may_6 {base : Nat} {x : Nd} {lv : V} (h : Heap) (hl : LV lv x.l) (hm : ∀ y ∈ x.l, MayOk y) (hk : x.kind = 6) : WpF S0 base k_ast_may [.agg (ndC x lv)] h fun v h' => v = .bool (mayN zA x) ∧ h' = h := by
  have hs : zD x lv = shC true false false false (.fn (.func k_ast_natural) [] []) (.fn (.func zzs) [] []) (.fn (.func zt) [] [.eptr [.sc (.int .i64 0)] 0]) := by unfold zD; rw [hk]; rfl
  have hr := may_of (base := base) h hl true false false false k_ast_natural zzs zt [] [] [.eptr [.sc (.int .i64 0)] 0] (decide (0 ≤ x.n)) (decide (x.ord = 0)) (decide ((x.l.length : Int) = 0) && allN zA 20 24 x.l) hs (by rw [hk]; rfl) (fun base h => natural_r x.n h) (fun base h => none_r x.ord h) (fun base h => exactly1_r 0 hl h hm)
  rw [mayN_6 hk]
  simp only [blankB, reduceIte, Bool.false_eq_true]
  simp only [head_t, head_f, line_eq, one01, one02, one0123, one123, len1, len2, len0, lenh1, lenh2, sec_t, sec_g, sec_i, sec_0] at hr
  simp only [Bool.true_or, Bool.false_or, Bool.and_true, Bool.true_and] at hr ⊢
  refine hr.mono fun v h' q => ⟨q.1.trans (congrArg V.bool (by ac_rfl)), q.2⟩
set_option maxHeartbeats 1000000 in
theorem may_7 {base : Nat} {x : Nd} {lv : V} (h : Heap) (hl : LV lv x.l) (hm : ∀ y ∈ x.l, MayOk y) (hk : x.kind = 7) : WpF S0 base k_ast_may [.agg (ndC x lv)] h fun v h' => v = .bool (mayN zA x) ∧ h' = h := by
  have hs : zD x lv = shC false false false false (.fn (.func zzs) [] []) (.fn (.func zzs) [] []) (.fn (.func k_ast_of_4) [] []) := by unfold zD; rw [hk]; rfl
  have hr := may_of (base := base) h hl false false false false zzs zzs k_ast_of_4 [] [] [] (decide (x.n = 0)) (decide (x.ord = 0)) (allN zA 8 19 x.l) hs (by rw [hk]; rfl) (fun base h => none_r x.n h) (fun base h => none_r x.ord h) (fun base h => of4_r hl h hm)
  rw [mayN_7 hk]
  simp only [blankB, reduceIte, Bool.false_eq_true]
  simp only [head_t, head_f, line_eq, one01, one02, one0123, one123, len1, len2, len0, lenh1, lenh2, sec_t, sec_g, sec_i, sec_0] at hr
  simp only [Bool.true_or, Bool.false_or, Bool.and_true, Bool.true_and] at hr ⊢
  refine hr.mono fun v h' q => ⟨q.1.trans (congrArg V.bool (by ac_rfl)), q.2⟩
set_option maxHeartbeats 1000000 in
theorem may_8 {base : Nat} {x : Nd} {lv : V} (h : Heap) (hl : LV lv x.l) (hm : ∀ y ∈ x.l, MayOk y) (hk : x.kind = 8) : WpF S0 base k_ast_may [.agg (ndC x lv)] h fun v h' => v = .bool (mayN zA x) ∧ h' = h := by
  have hs : zD x lv = shC true false false false (.fn (.func zzs) [] []) (.fn (.func zzs) [] []) (.fn (.func zt) [] [.eptr [.sc (.int .i64 1)] 0]) := by unfold zD; rw [hk]; rfl
  have hr := may_of (base := base) h hl true false false false zzs zzs zt [] [] [.eptr [.sc (.int .i64 1)] 0] (decide (x.n = 0)) (decide (x.ord = 0)) (decide ((x.l.length : Int) = 1) && allN zA 20 24 x.l) hs (by rw [hk]; rfl) (fun base h => none_r x.n h) (fun base h => none_r x.ord h) (fun base h => exactly1_r 1 hl h hm)
  rw [mayN_8 hk]
  simp only [blankB, reduceIte, Bool.false_eq_true]
  simp only [head_t, head_f, line_eq, one01, one02, one0123, one123, len1, len2, len0, lenh1, lenh2, sec_t, sec_g, sec_i, sec_0] at hr
  simp only [Bool.true_or, Bool.false_or, Bool.and_true, Bool.true_and] at hr ⊢
  refine hr.mono fun v h' q => ⟨q.1.trans (congrArg V.bool (by ac_rfl)), q.2⟩
set_option maxHeartbeats 1000000 in
theorem may_9 {base : Nat} {x : Nd} {lv : V} (h : Heap) (hl : LV lv x.l) (hm : ∀ y ∈ x.l, MayOk y) (hk : x.kind = 9) : WpF S0 base k_ast_may [.agg (ndC x lv)] h fun v h' => v = .bool (mayN zA x) ∧ h' = h := by
  have hs : zD x lv = shC true false false false (.fn (.func zzs) [] []) (.fn (.func zzs) [] []) (.fn (.func zt) [] [.eptr [.sc (.int .i64 2)] 0]) := by unfold zD; rw [hk]; rfl
  have hr := may_of (base := base) h hl true false false false zzs zzs zt [] [] [.eptr [.sc (.int .i64 2)] 0] (decide (x.n = 0)) (decide (x.ord = 0)) (decide ((x.l.length : Int) = 2) && allN zA 20 24 x.l) hs (by rw [hk]; rfl) (fun base h => none_r x.n h) (fun base h => none_r x.ord h) (fun base h => exactly1_r 2 hl h hm)
  rw [mayN_9 hk]
  simp only [blankB, reduceIte, Bool.false_eq_true]
  simp only [head_t, head_f, line_eq, one01, one02, one0123, one123, len1, len2, len0, lenh1, lenh2, sec_t, sec_g, sec_i, sec_0] at hr
  simp only [Bool.true_or, Bool.false_or, Bool.and_true, Bool.true_and] at hr ⊢
  refine hr.mono fun v h' q => ⟨q.1.trans (congrArg V.bool (by ac_rfl)), q.2⟩
set_option maxHeartbeats 1000000 in
theorem may_10 {base : Nat} {x : Nd} {lv : V} (h : Heap) (hl : LV lv x.l) (hm : ∀ y ∈ x.l, MayOk y) (hk : x.kind = 10) : WpF S0 base k_ast_may [.agg (ndC x lv)] h fun v h' => v = .bool (mayN zA x) ∧ h' = h := by
  have hs : zD x lv = shC true true false false (.fn (.func zzs) [] []) (.fn (.func k_ast_one_1) [] [.eptr [.slc .lit 1 (([0, 1] : List Int).map fun (i : Int) => [V.sc (.int .i64 i)])] 0]) (.fn (.func zt) [] [.eptr [.sc (.int .i64 0)] 0]) := by unfold zD; rw [hk]; rfl
  have hr := may_of (base := base) h hl true true false false zzs k_ast_one_1 zt [] [.eptr [.slc .lit 1 (([0, 1] : List Int).map fun (i : Int) => [V.sc (.int .i64 i)])] 0] [.eptr [.sc (.int .i64 0)] 0] (decide (x.n = 0)) (([0, 1] : List Int).contains x.ord) (decide ((x.l.length : Int) = 0) && allN zA 20 24 x.l) hs (by rw [hk]; rfl) (fun base h => none_r x.n h) (fun base h => one1_r [0, 1] x.ord .lit h (by decide)) (fun base h => exactly1_r 0 hl h hm)
  rw [mayN_10 hk]
  simp only [blankB, reduceIte, Bool.false_eq_true]
  simp only [head_t, head_f, line_eq, one01, one02, one0123, one123, len1, len2, len0, lenh1, lenh2, sec_t, sec_g, sec_i, sec_0] at hr
  simp only [Bool.true_or, Bool.false_or, Bool.and_true, Bool.true_and] at hr ⊢
  refine hr.mono fun v h' q => ⟨q.1.trans (congrArg V.bool (by ac_rfl)), q.2⟩
set_option maxHeartbeats 1000000 in
theorem may_11 {base : Nat} {x : Nd} {lv : V} (h : Heap) (hl : LV lv x.l) (hm : ∀ y ∈ x.l, MayOk y) (hk : x.kind = 11) : WpF S0 base k_ast_may [.agg (ndC x lv)] h fun v h' => v = .bool (mayN zA x) ∧ h' = h := by
  have hs : zD x lv = shC true false false false (.fn (.func zzs) [] []) (.fn (.func k_ast_one_1) [] [.eptr [.slc .lit 1 (([0, 2] : List Int).map fun (i : Int) => [V.sc (.int .i64 i)])] 0]) (.fn (.func zt) [] [.eptr [.sc (.int .i64 1)] 0]) := by unfold zD; rw [hk]; rfl
  have hr := may_of (base := base) h hl true false false false zzs k_ast_one_1 zt [] [.eptr [.slc .lit 1 (([0, 2] : List Int).map fun (i : Int) => [V.sc (.int .i64 i)])] 0] [.eptr [.sc (.int .i64 1)] 0] (decide (x.n = 0)) (([0, 2] : List Int).contains x.ord) (decide ((x.l.length : Int) = 1) && allN zA 20 24 x.l) hs (by rw [hk]; rfl) (fun base h => none_r x.n h) (fun base h => one1_r [0, 2] x.ord .lit h (by decide)) (fun base h => exactly1_r 1 hl h hm)
  rw [mayN_11 hk]
  simp only [blankB, reduceIte, Bool.false_eq_true]
  simp only [head_t, head_f, line_eq, one01, one02, one0123, one123, len1, len2, len0, lenh1, lenh2, sec_t, sec_g, sec_i, sec_0] at hr
  simp only [Bool.true_or, Bool.false_or, Bool.and_true, Bool.true_and] at hr ⊢
  refine hr.mono fun v h' q => ⟨q.1.trans (congrArg V.bool (by ac_rfl)), q.2⟩
set_option maxHeartbeats 1000000 in
theorem may_12 {base : Nat} {x : Nd} {lv : V} (h : Heap) (hl : LV lv x.l) (hm : ∀ y ∈ x.l, MayOk y) (hk : x.kind = 12) : WpF S0 base k_ast_may [.agg (ndC x lv)] h fun v h' => v = .bool (mayN zA x) ∧ h' = h := by
  have hs : zD x lv = shC true true false false (.fn (.func k_ast_of_5) [] []) (.fn (.func k_ast_one_1) [] [.eptr [.slc .lit 1 (([0, 1, 2, 3] : List Int).map fun (i : Int) => [V.sc (.int .i64 i)])] 0]) (.fn (.func zt) [] [.eptr [.sc (.int .i64 1)] 0]) := by unfold zD; rw [hk]; rfl
  have hr := may_of (base := base) h hl true true false false k_ast_of_5 k_ast_one_1 zt [] [.eptr [.slc .lit 1 (([0, 1, 2, 3] : List Int).map fun (i : Int) => [V.sc (.int .i64 i)])] 0] [.eptr [.sc (.int .i64 1)] 0] (decide (1 ≤ x.n ∧ x.n ≤ 7)) (([0, 1, 2, 3] : List Int).contains x.ord) (decide ((x.l.length : Int) = 1) && allN zA 20 24 x.l) hs (by rw [hk]; rfl) (fun base h => of5_r x.n h) (fun base h => one1_r [0, 1, 2, 3] x.ord .lit h (by decide)) (fun base h => exactly1_r 1 hl h hm)
  rw [mayN_12 hk]
  simp only [blankB, reduceIte, Bool.false_eq_true]
  simp only [head_t, head_f, line_eq, one01, one02, one0123, one123, len1, len2, len0, lenh1, lenh2, sec_t, sec_g, sec_i, sec_0] at hr
  simp only [Bool.true_or, Bool.false_or, Bool.and_true, Bool.true_and] at hr ⊢
  refine hr.mono fun v h' q => ⟨q.1.trans (congrArg V.bool (by ac_rfl)), q.2⟩
set_option maxHeartbeats 1000000 in
theorem may_13 {base : Nat} {x : Nd} {lv : V} (h : Heap) (hl : LV lv x.l) (hm : ∀ y ∈ x.l, MayOk y) (hk : x.kind = 13) : WpF S0 base k_ast_may [.agg (ndC x lv)] h fun v h' => v = .bool (mayN zA x) ∧ h' = h := by
  have hs : zD x lv = shC true true false false (.fn (.func zzs) [] []) (.fn (.func k_ast_one_1) [] [.eptr [.slc .lit 1 (([0, 1, 2, 3] : List Int).map fun (i : Int) => [V.sc (.int .i64 i)])] 0]) (.fn (.func zt) [] [.eptr [.sc (.int .i64 2)] 0]) := by unfold zD; rw [hk]; rfl
  have hr := may_of (base := base) h hl true true false false zzs k_ast_one_1 zt [] [.eptr [.slc .lit 1 (([0, 1, 2, 3] : List Int).map fun (i : Int) => [V.sc (.int .i64 i)])] 0] [.eptr [.sc (.int .i64 2)] 0] (decide (x.n = 0)) (([0, 1, 2, 3] : List Int).contains x.ord) (decide ((x.l.length : Int) = 2) && allN zA 20 24 x.l) hs (by rw [hk]; rfl) (fun base h => none_r x.n h) (fun base h => one1_r [0, 1, 2, 3] x.ord .lit h (by decide)) (fun base h => exactly1_r 2 hl h hm)
  rw [mayN_13 hk]
  simp only [blankB, reduceIte, Bool.false_eq_true]
  simp only [head_t, head_f, line_eq, one01, one02, one0123, one123, len1, len2, len0, lenh1, lenh2, sec_t, sec_g, sec_i, sec_0] at hr
  simp only [Bool.true_or, Bool.false_or, Bool.and_true, Bool.true_and] at hr ⊢
  refine hr.mono fun v h' q => ⟨q.1.trans (congrArg V.bool (by ac_rfl)), q.2⟩
set_option maxHeartbeats 1000000 in
theorem may_14 {base : Nat} {x : Nd} {lv : V} (h : Heap) (hl : LV lv x.l) (hm : ∀ y ∈ x.l, MayOk y) (hk : x.kind = 14) : WpF S0 base k_ast_may [.agg (ndC x lv)] h fun v h' => v = .bool (mayN zA x) ∧ h' = h := by
  have hs : zD x lv = shC false false false false (.fn (.func zzs) [] []) (.fn (.func k_ast_one_1) [] [.eptr [.slc .lit 1 (([1, 2, 3] : List Int).map fun (i : Int) => [V.sc (.int .i64 i)])] 0]) (.fn (.func zt) [] [.eptr [.sc (.int .i64 0)] 0]) := by unfold zD; rw [hk]; rfl
  have hr := may_of (base := base) h hl false false false false zzs k_ast_one_1 zt [] [.eptr [.slc .lit 1 (([1, 2, 3] : List Int).map fun (i : Int) => [V.sc (.int .i64 i)])] 0] [.eptr [.sc (.int .i64 0)] 0] (decide (x.n = 0)) (([1, 2, 3] : List Int).contains x.ord) (decide ((x.l.length : Int) = 0) && allN zA 20 24 x.l) hs (by rw [hk]; rfl) (fun base h => none_r x.n h) (fun base h => one1_r [1, 2, 3] x.ord .lit h (by decide)) (fun base h => exactly1_r 0 hl h hm)
  rw [mayN_14 hk]
  simp only [blankB, reduceIte, Bool.false_eq_true]
  simp only [head_t, head_f, line_eq, one01, one02, one0123, one123, len1, len2, len0, lenh1, lenh2, sec_t, sec_g, sec_i, sec_0] at hr
  simp only [Bool.true_or, Bool.false_or, Bool.and_true, Bool.true_and] at hr ⊢
  refine hr.mono fun v h' q => ⟨q.1.trans (congrArg V.bool (by ac_rfl)), q.2⟩
set_option maxHeartbeats 1000000 in
theorem may_15 {base : Nat} {x : Nd} {lv : V} (h : Heap) (hl : LV lv x.l) (hm : ∀ y ∈ x.l, MayOk y) (hk : x.kind = 15) : WpF S0 base k_ast_may [.agg (ndC x lv)] h fun v h' => v = .bool (mayN zA x) ∧ h' = h := by
  have hs : zD x lv = shC false false false false (.fn (.func zzs) [] []) (.fn (.func zzs) [] []) (.fn (.func k_ast_headed_1) [] [.eptr [.sc (.int .i64 1)] 0, .eptr [.sc (.int .i64 2)] 0]) := by unfold zD; rw [hk]; rfl
  have hr := may_of (base := base) h hl false false false false zzs zzs k_ast_headed_1 [] [] [.eptr [.sc (.int .i64 1)] 0, .eptr [.sc (.int .i64 2)] 0] (decide (x.n = 0)) (decide (x.ord = 0)) (decide (1 < (x.l.length : Int) ∧ (x.l.length : Int) ≤ 2 + 1) && headN zA x.l) hs (by rw [hk]; rfl) (fun base h => none_r x.n h) (fun base h => none_r x.ord h) (fun base h => headed1_r 2 (by omega) (by omega) hl h hm)
  rw [mayN_15 hk]
  simp only [blankB, reduceIte, Bool.false_eq_true]
  simp only [head_t, head_f, line_eq, one01, one02, one0123, one123, len1, len2, len0, lenh1, lenh2, sec_t, sec_g, sec_i, sec_0] at hr
  simp only [Bool.true_or, Bool.false_or, Bool.and_true, Bool.true_and] at hr ⊢
  refine hr.mono fun v h' q => ⟨q.1.trans (congrArg V.bool (by ac_rfl)), q.2⟩
set_option maxHeartbeats 1000000 in
theorem may_16 {base : Nat} {x : Nd} {lv : V} (h : Heap) (hl : LV lv x.l) (hm : ∀ y ∈ x.l, MayOk y) (hk : x.kind = 16) : WpF S0 base k_ast_may [.agg (ndC x lv)] h fun v h' => v = .bool (mayN zA x) ∧ h' = h := by
  have hs : zD x lv = shC false false false false (.fn (.func zzs) [] []) (.fn (.func zzs) [] []) (.fn (.func k_ast_headed_1) [] [.eptr [.sc (.int .i64 1)] 0, .eptr [.sc (.int .i64 1)] 0]) := by unfold zD; rw [hk]; rfl
  have hr := may_of (base := base) h hl false false false false zzs zzs k_ast_headed_1 [] [] [.eptr [.sc (.int .i64 1)] 0, .eptr [.sc (.int .i64 1)] 0] (decide (x.n = 0)) (decide (x.ord = 0)) (decide (1 < (x.l.length : Int) ∧ (x.l.length : Int) ≤ 1 + 1) && headN zA x.l) hs (by rw [hk]; rfl) (fun base h => none_r x.n h) (fun base h => none_r x.ord h) (fun base h => headed1_r 1 (by omega) (by omega) hl h hm)
  rw [mayN_16 hk]
  simp only [blankB, reduceIte, Bool.false_eq_true]
  simp only [head_t, head_f, line_eq, one01, one02, one0123, one123, len1, len2, len0, lenh1, lenh2, sec_t, sec_g, sec_i, sec_0] at hr
  simp only [Bool.true_or, Bool.false_or, Bool.and_true, Bool.true_and] at hr ⊢
  refine hr.mono fun v h' q => ⟨q.1.trans (congrArg V.bool (by ac_rfl)), q.2⟩
set_option maxHeartbeats 1000000 in
theorem may_17 {base : Nat} {x : Nd} {lv : V} (h : Heap) (hl : LV lv x.l) (hm : ∀ y ∈ x.l, MayOk y) (hk : x.kind = 17) : WpF S0 base k_ast_may [.agg (ndC x lv)] h fun v h' => v = .bool (mayN zA x) ∧ h' = h := by
  have hs : zD x lv = shC false false false false (.fn (.func zzs) [] []) (.fn (.func zzs) [] []) (.fn (.func zt) [] [.eptr [.sc (.int .i64 1)] 0]) := by unfold zD; rw [hk]; rfl
  have hr := may_of (base := base) h hl false false false false zzs zzs zt [] [] [.eptr [.sc (.int .i64 1)] 0] (decide (x.n = 0)) (decide (x.ord = 0)) (decide ((x.l.length : Int) = 1) && allN zA 20 24 x.l) hs (by rw [hk]; rfl) (fun base h => none_r x.n h) (fun base h => none_r x.ord h) (fun base h => exactly1_r 1 hl h hm)
  rw [mayN_17 hk]
  simp only [blankB, reduceIte, Bool.false_eq_true]
  simp only [head_t, head_f, line_eq, one01, one02, one0123, one123, len1, len2, len0, lenh1, lenh2, sec_t, sec_g, sec_i, sec_0] at hr
  simp only [Bool.true_or, Bool.false_or, Bool.and_true, Bool.true_and] at hr ⊢
  refine hr.mono fun v h' q => ⟨q.1.trans (congrArg V.bool (by ac_rfl)), q.2⟩
set_option maxHeartbeats 1000000 in
theorem may_18 {base : Nat} {x : Nd} {lv : V} (h : Heap) (hl : LV lv x.l) (hm : ∀ y ∈ x.l, MayOk y) (hk : x.kind = 18) : WpF S0 base k_ast_may [.agg (ndC x lv)] h fun v h' => v = .bool (mayN zA x) ∧ h' = h := by
  have hs : zD x lv = shC true true false false (.fn (.func zzs) [] []) (.fn (.func zzs) [] []) (.fn (.func k_ast_of_6) [] []) := by unfold zD; rw [hk]; rfl
  have hr := may_of (base := base) h hl true true false false zzs zzs k_ast_of_6 [] [] [] (decide (x.n = 0)) (decide (x.ord = 0)) (allN zA 20 24 x.l) hs (by rw [hk]; rfl) (fun base h => none_r x.n h) (fun base h => none_r x.ord h) (fun base h => of6_r hl h hm)
  rw [mayN_18 hk]
  simp only [blankB, reduceIte, Bool.false_eq_true]
  simp only [head_t, head_f, line_eq, one01, one02, one0123, one123, len1, len2, len0, lenh1, lenh2, sec_t, sec_g, sec_i, sec_0] at hr
  simp only [Bool.true_or, Bool.false_or, Bool.and_true, Bool.true_and] at hr ⊢
  refine hr.mono fun v h' q => ⟨q.1.trans (congrArg V.bool (by ac_rfl)), q.2⟩
set_option maxHeartbeats 1000000 in
theorem may_19 {base : Nat} {x : Nd} {lv : V} (h : Heap) (hl : LV lv x.l) (hm : ∀ y ∈ x.l, MayOk y) (hk : x.kind = 19) : WpF S0 base k_ast_may [.agg (ndC x lv)] h fun v h' => v = .bool (mayN zA x) ∧ h' = h := by
  have hs : zD x lv = shC false false false false (.fn (.func zzs) [] []) (.fn (.func zzs) [] []) (.fn (.func zt) [] [.eptr [.sc (.int .i64 0)] 0]) := by unfold zD; rw [hk]; rfl
  have hr := may_of (base := base) h hl false false false false zzs zzs zt [] [] [.eptr [.sc (.int .i64 0)] 0] (decide (x.n = 0)) (decide (x.ord = 0)) (decide ((x.l.length : Int) = 0) && allN zA 20 24 x.l) hs (by rw [hk]; rfl) (fun base h => none_r x.n h) (fun base h => none_r x.ord h) (fun base h => exactly1_r 0 hl h hm)
  rw [mayN_19 hk]
  simp only [blankB, reduceIte, Bool.false_eq_true]
  simp only [head_t, head_f, line_eq, one01, one02, one0123, one123, len1, len2, len0, lenh1, lenh2, sec_t, sec_g, sec_i, sec_0] at hr
  simp only [Bool.true_or, Bool.false_or, Bool.and_true, Bool.true_and] at hr ⊢
  refine hr.mono fun v h' q => ⟨q.1.trans (congrArg V.bool (by ac_rfl)), q.2⟩
set_option maxHeartbeats 1000000 in
theorem may_20 {base : Nat} {x : Nd} {lv : V} (h : Heap) (hl : LV lv x.l) (hm : ∀ y ∈ x.l, MayOk y) (hk : x.kind = 20) : WpF S0 base k_ast_may [.agg (ndC x lv)] h fun v h' => v = .bool (mayN zA x) ∧ h' = h := by
  have hs : zD x lv = shC false false false false (.fn (.func k_ast_natural) [] []) (.fn (.func zzs) [] []) (.fn (.func zt) [] [.eptr [.sc (.int .i64 0)] 0]) := by unfold zD; rw [hk]; rfl
  have hr := may_of (base := base) h hl false false false false k_ast_natural zzs zt [] [] [.eptr [.sc (.int .i64 0)] 0] (decide (0 ≤ x.n)) (decide (x.ord = 0)) (decide ((x.l.length : Int) = 0) && allN zA 20 24 x.l) hs (by rw [hk]; rfl) (fun base h => natural_r x.n h) (fun base h => none_r x.ord h) (fun base h => exactly1_r 0 hl h hm)
  rw [mayN_20 hk]
  simp only [blankB, reduceIte, Bool.false_eq_true]
  simp only [head_t, head_f, line_eq, one01, one02, one0123, one123, len1, len2, len0, lenh1, lenh2, sec_t, sec_g, sec_i, sec_0] at hr
  simp only [Bool.true_or, Bool.false_or, Bool.and_true, Bool.true_and] at hr ⊢
  refine hr.mono fun v h' q => ⟨q.1.trans (congrArg V.bool (by ac_rfl)), q.2⟩
set_option maxHeartbeats 1000000 in
theorem may_21 {base : Nat} {x : Nd} {lv : V} (h : Heap) (hl : LV lv x.l) (hm : ∀ y ∈ x.l, MayOk y) (hk : x.kind = 21) : WpF S0 base k_ast_may [.agg (ndC x lv)] h fun v h' => v = .bool (mayN zA x) ∧ h' = h := by
  have hs : zD x lv = shC true false false false (.fn (.func zzs) [] []) (.fn (.func zzs) [] []) (.fn (.func zt) [] [.eptr [.sc (.int .i64 0)] 0]) := by unfold zD; rw [hk]; rfl
  have hr := may_of (base := base) h hl true false false false zzs zzs zt [] [] [.eptr [.sc (.int .i64 0)] 0] (decide (x.n = 0)) (decide (x.ord = 0)) (decide ((x.l.length : Int) = 0) && allN zA 20 24 x.l) hs (by rw [hk]; rfl) (fun base h => none_r x.n h) (fun base h => none_r x.ord h) (fun base h => exactly1_r 0 hl h hm)
  rw [mayN_21 hk]
  simp only [blankB, reduceIte, Bool.false_eq_true]
  simp only [head_t, head_f, line_eq, one01, one02, one0123, one123, len1, len2, len0, lenh1, lenh2, sec_t, sec_g, sec_i, sec_0] at hr
  simp only [Bool.true_or, Bool.false_or, Bool.and_true, Bool.true_and] at hr ⊢
  refine hr.mono fun v h' q => ⟨q.1.trans (congrArg V.bool (by ac_rfl)), q.2⟩
set_option maxHeartbeats 1000000 in
theorem may_22 {base : Nat} {x : Nd} {lv : V} (h : Heap) (hl : LV lv x.l) (hm : ∀ y ∈ x.l, MayOk y) (hk : x.kind = 22) : WpF S0 base k_ast_may [.agg (ndC x lv)] h fun v h' => v = .bool (mayN zA x) ∧ h' = h := by
  have hs : zD x lv = shC true false false false (.fn (.func zzs) [] []) (.fn (.func zzs) [] []) (.fn (.func zt) [] [.eptr [.sc (.int .i64 1)] 0]) := by unfold zD; rw [hk]; rfl
  have hr := may_of (base := base) h hl true false false false zzs zzs zt [] [] [.eptr [.sc (.int .i64 1)] 0] (decide (x.n = 0)) (decide (x.ord = 0)) (decide ((x.l.length : Int) = 1) && allN zA 20 24 x.l) hs (by rw [hk]; rfl) (fun base h => none_r x.n h) (fun base h => none_r x.ord h) (fun base h => exactly1_r 1 hl h hm)
  rw [mayN_22 hk]
  simp only [blankB, reduceIte, Bool.false_eq_true]
  simp only [head_t, head_f, line_eq, one01, one02, one0123, one123, len1, len2, len0, lenh1, lenh2, sec_t, sec_g, sec_i, sec_0] at hr
  simp only [Bool.true_or, Bool.false_or, Bool.and_true, Bool.true_and] at hr ⊢
  refine hr.mono fun v h' q => ⟨q.1.trans (congrArg V.bool (by ac_rfl)), q.2⟩
set_option maxHeartbeats 1000000 in
theorem may_23 {base : Nat} {x : Nd} {lv : V} (h : Heap) (hl : LV lv x.l) (hm : ∀ y ∈ x.l, MayOk y) (hk : x.kind = 23) : WpF S0 base k_ast_may [.agg (ndC x lv)] h fun v h' => v = .bool (mayN zA x) ∧ h' = h := by
  have hs : zD x lv = shC false false true false (.fn (.func zzs) [] []) (.fn (.func zzs) [] []) (.fn (.func zt) [] [.eptr [.sc (.int .i64 2)] 0]) := by unfold zD; rw [hk]; rfl
  have hr := may_of (base := base) h hl false false true false zzs zzs zt [] [] [.eptr [.sc (.int .i64 2)] 0] (decide (x.n = 0)) (decide (x.ord = 0)) (decide ((x.l.length : Int) = 2) && allN zA 20 24 x.l) hs (by rw [hk]; rfl) (fun base h => none_r x.n h) (fun base h => none_r x.ord h) (fun base h => exactly1_r 2 hl h hm)
  rw [mayN_23 hk]
  simp only [blankB, reduceIte, Bool.false_eq_true]
  simp only [head_t, head_f, line_eq, one01, one02, one0123, one123, len1, len2, len0, lenh1, lenh2, sec_t, sec_g, sec_i, sec_0] at hr
  simp only [Bool.true_or, Bool.false_or, Bool.and_true, Bool.true_and] at hr ⊢
  refine hr.mono fun v h' q => ⟨q.1.trans (congrArg V.bool (by ac_rfl)), q.2⟩
set_option maxHeartbeats 1000000 in
theorem may_24 {base : Nat} {x : Nd} {lv : V} (h : Heap) (hl : LV lv x.l) (hm : ∀ y ∈ x.l, MayOk y) (hk : x.kind = 24) : WpF S0 base k_ast_may [.agg (ndC x lv)] h fun v h' => v = .bool (mayN zA x) ∧ h' = h := by
  have hs : zD x lv = shC false false false true (.fn (.func zzs) [] []) (.fn (.func zzs) [] []) (.fn (.func zt) [] [.eptr [.sc (.int .i64 1)] 0]) := by unfold zD; rw [hk]; rfl
  have hr := may_of (base := base) h hl false false false true zzs zzs zt [] [] [.eptr [.sc (.int .i64 1)] 0] (decide (x.n = 0)) (decide (x.ord = 0)) (decide ((x.l.length : Int) = 1) && allN zA 20 24 x.l) hs (by rw [hk]; rfl) (fun base h => none_r x.n h) (fun base h => none_r x.ord h) (fun base h => exactly1_r 1 hl h hm)
  rw [mayN_24 hk]
  simp only [blankB, reduceIte, Bool.false_eq_true]
  simp only [head_t, head_f, line_eq, one01, one02, one0123, one123, len1, len2, len0, lenh1, lenh2, sec_t, sec_g, sec_i, sec_0] at hr
  simp only [Bool.true_or, Bool.false_or, Bool.and_true, Bool.true_and] at hr ⊢
  refine hr.mono fun v h' q => ⟨q.1.trans (congrArg V.bool (by ac_rfl)), q.2⟩
theorem mayN_no {nm : ByteArray → Bool} {x : Nd} (hk : ¬ (1 ≤ x.kind ∧ x.kind ≤ 24)) : mayN nm x = false := by
  cases x with
  | mk k s t n o ln l =>
    simp only [Nd.kind] at hk
    unfold mayN
    rw [if_neg (by omega), if_neg (by omega), if_neg (by omega), if_neg (by omega), if_neg (by omega), if_neg (by omega), if_neg (by omega), if_neg (by omega), if_neg (by omega), decide_eq_false (show ¬ (k = 2 ∨ k = 5 ∨ k = 6 ∨ k = 10 ∨ k = 14 ∨ k = 19 ∨ k = 20 ∨ k = 21) by omega), Bool.and_false, Bool.and_false]
theorem shapeOf_no {x : Nd} {lv : V} (hk : ¬ (1 ≤ x.kind ∧ x.kind ≤ 24)) : zD x lv = Zs := by
  unfold zD
  rw [if_neg (by omega), if_neg (by omega), if_neg (by omega), if_neg (by omega), if_neg (by omega), if_neg (by omega), if_neg (by omega), if_neg (by omega), if_neg (by omega), if_neg (by omega), if_neg (by omega), if_neg (by omega), if_neg (by omega), if_neg (by omega), if_neg (by omega), if_neg (by omega), if_neg (by omega), if_neg (by omega), if_neg (by omega), if_neg (by omega), if_neg (by omega), if_neg (by omega), if_neg (by omega), if_neg (by omega)]
theorem may_none {base : Nat} {x : Nd} {lv : V} (h : Heap) (hl : LV lv x.l) (hk : ¬ (1 ≤ x.kind ∧ x.kind ≤ 24)) : WpF S0 base k_ast_may [.agg (ndC x lv)] h fun v h' => v = .bool (mayN zA x) ∧ h' = h := by
  first | refine zu (A := f_ast_may) rfl rfl rfl rfl ?_ | refine zB (A := f_ast_may) rfl rfl rfl rfl ?_
  simp only [f_ast_may, ndC]
  refine zw (fun en' h' => en' 1 = .eptr (ndC x lv) 0 ∧ en' 2 = .bool false ∧ h' = h) ?_ ?_
  · simp only [SQ, SQB, zm, AOp.opds, step, Opd.get, zk, bin, zc, IntKind.signed, zi, zj, zl, zb, unary, ze, zd, za, zo, zr, zh, zf, zg, zp, Cp.isFull, isNil, zq, simprocAttr, SQX, V.cells, hl.gr]
  rintro en1 h1 ⟨e1, e2, rfl⟩
  have ho : ∀ base, _ := fun base => of_r (base := base) h1 hl
  rw [shapeOf_no hk, show kindOk x.kind = false from decide_eq_false hk] at ho
  refine zw (fun en' h' => en' 4 = .bool false ∧ h' = h1 ++ [.box 71 Zs]) ?_ ?_
  · have hst := st1a (h := h1) (t := 71) (cs := Zs) (ds := Zs) rfl rfl rfl
    simp only [SQ, SQB, zm, AOp.opds, step, Opd.get, zk, bin, zc, IntKind.signed, zi, zj, zb, unary, ze, zd, za, zo, zr, zh, zf, zg, zp, Cp.isFull, isNil, zq, simprocAttr, SQX, V.cells, e1, e2, agg_load (r := ndC x lv) rfl, zn (ho _), hst]
  rintro en2 h2 ⟨f4, rfl⟩
  rw [mayN_no hk]
  simp only [SQ, SQB, zm, AOp.opds, step, Opd.get, zk, bin, zc, IntKind.signed, zi, zj, zl, zb, unary, ze, zd, za, zo, zr, zh, zf, zg, zp, Cp.isFull, isNil, zq, simprocAttr, SQX, V.cells, f4, List.take_left]
theorem may_r (n : Nat) : ∀ (x : Nd), szN x ≤ n → MayOk x := by
  refine n.rec (fun x hn => ?_) (fun n ih x hn => ?_)
  · cases x; simp [szN] at hn
  have hm : ∀ y ∈ x.l, MayOk y := fun y hy => ih y (by have := sz_child hy; omega)
  intro base cs h hv
  obtain ⟨lv, rfl, hl⟩ := hv.open
  by_cases k1 : x.kind = 1
  · exact may_1 h hl hm k1
  by_cases k2 : x.kind = 2
  · exact may_2 h hl hm k2
  by_cases k3 : x.kind = 3
  · exact may_3 h hl hm k3
  by_cases k4 : x.kind = 4
  · exact may_4 h hl hm k4
  by_cases k5 : x.kind = 5
  · exact may_5 h hl hm k5
  by_cases k6 : x.kind = 6
  · exact may_6 h hl hm k6
  by_cases k7 : x.kind = 7
  · exact may_7 h hl hm k7
  by_cases k8 : x.kind = 8
  · exact may_8 h hl hm k8
  by_cases k9 : x.kind = 9
  · exact may_9 h hl hm k9
  by_cases k10 : x.kind = 10
  · exact may_10 h hl hm k10
  by_cases k11 : x.kind = 11
  · exact may_11 h hl hm k11
  by_cases k12 : x.kind = 12
  · exact may_12 h hl hm k12
  by_cases k13 : x.kind = 13
  · exact may_13 h hl hm k13
  by_cases k14 : x.kind = 14
  · exact may_14 h hl hm k14
  by_cases k15 : x.kind = 15
  · exact may_15 h hl hm k15
  by_cases k16 : x.kind = 16
  · exact may_16 h hl hm k16
  by_cases k17 : x.kind = 17
  · exact may_17 h hl hm k17
  by_cases k18 : x.kind = 18
  · exact may_18 h hl hm k18
  by_cases k19 : x.kind = 19
  · exact may_19 h hl hm k19
  by_cases k20 : x.kind = 20
  · exact may_20 h hl hm k20
  by_cases k21 : x.kind = 21
  · exact may_21 h hl hm k21
  by_cases k22 : x.kind = 22
  · exact may_22 h hl hm k22
  by_cases k23 : x.kind = 23
  · exact may_23 h hl hm k23
  by_cases k24 : x.kind = 24
  · exact may_24 h hl hm k24
  exact may_none h hl (by omega)
theorem mayOk (x : Nd) : MayOk x := may_r _ x (Nat.le_refl _)
end
section
set_option maxHeartbeats 1000000 in
theorem aMay_r {base : Nat} {x : Nd} {cs : List V} (h : Heap) (hv : NdV x cs) : WpF S0 base k_ast_May [.agg cs] h fun v h' => v = .bool (okK zA 1 1 x) ∧ h' = h := by
  have hmay := fun base h => mayOk x base cs h hv
  obtain ⟨lv, rfl, hl⟩ := hv.open
  have he : okK zA 1 1 x = (decide (x.kind = 1) && mayN zA x) := by unfold okK; congr 1; rw [decide_eq_decide]; omega
  rw [he]
  first | refine zu (A := f_ast_May) rfl rfl rfl rfl ?_ | refine zB (A := f_ast_May) rfl rfl rfl rfl ?_
  simp only [f_ast_May, oD, cD]
  refine zw (fun en' h' => en' 1 = .eptr (ndC x lv) 0 ∧ h' = h) ?_ ?_
  · simp only [SQ, SQB, zm, AOp.opds, step, Opd.get, zk, bin, zc, IntKind.signed, zi, zj, zl, zb, unary, ze, zd, za, zo, zr, zh, zf, zg, zp, Cp.isFull, isNil, zq, simprocAttr, SQX, V.cells, hl.gr]
  rintro en1 h1 ⟨e1, rfl⟩
  cases hk : decide (x.kind = 1)
  · simp only [SQ, SQB, zm, AOp.opds, step, Opd.get, zk, bin, zc, IntKind.signed, zi, zj, zl, zb, unary, ze, zd, za, zo, zr, zh, zf, zg, zp, Cp.isFull, isNil, zq, simprocAttr, SQX, V.cells, e1, hk, Bool.false_and]
  · simp only [SQ, SQB, zm, AOp.opds, step, Opd.get, zk, bin, zc, IntKind.signed, zi, zj, zl, zb, unary, ze, zd, za, zo, zr, zh, zf, zg, zp, Cp.isFull, isNil, zq, simprocAttr, SQX, V.cells, e1, hk, zC, zn (hmay _ _)]
end
section
theorem LV.one {lv : V} {l : List Nd} (h : LV lv l) : zm lv = true := by
  rcases h with ⟨rfl, _⟩ | ⟨_, _, rfl, _⟩ <;> rfl
abbrev Zn : List V := [.sc (.int .i64 0), .sc (.string ⟨#[]⟩), .sc (.string ⟨#[]⟩), .sc (.int .i64 0), .sc (.int .i64 0), .sc (.int .i64 0), .sc (.slice none 0 0)]
def isItem (x : Nd) (i : Int) : Bool := okK zA 1 1 x && decide (0 ≤ i ∧ i < x.l.length) && (match x.l[i.toNat]? with | some y => decide (y.kind ≠ 2) | none => false)
set_option maxHeartbeats 2000000 in
theorem citem_no {base : Nat} {x : Nd} {lv : V} (i : Int) (h : Heap) (hv : NdV x (ndC x lv)) (hl : LV lv x.l) (hn : isItem x i = false) : WpF S0 base k_check_item [.agg (ndC x lv), .sc (.int .i64 i)] h fun v h' => v = .tup [.agg Zn, .bool false] ∧ h' = h := by
  have hmay := fun base h => aMay_r (base := base) h hv
  have ll := hl.len
  have lt := hl.lt
  first | refine zu (A := f_check_item) rfl rfl rfl rfl ?_ | refine zB (A := f_check_item) rfl rfl rfl rfl ?_
  simp only [f_check_item, ndC]
  refine zw (fun en' h' => en' 2 = .eptr (ndC x lv) 0 ∧ en' 1 = .sc (.int .i64 i) ∧ en' 4 = .ptr h.length 0 ∧ h' = h ++ [.box 24 Zn]) ?_ ?_
  · simp only [SQ, SQB, zm, AOp.opds, step, Opd.get, zk, bin, zc, IntKind.signed, zi, zj, zl, zb, unary, ze, zd, za, zo, zr, zh, zf, zg, zp, Cp.isFull, isNil, zq, simprocAttr, SQX, V.cells, hl.gr]
  rintro en1 h1 ⟨e2, e1, e4, rfl⟩
  have hz := st1a (h := h) (t := 24) (cs := Zn) (ds := Zn) rfl rfl rfl
  have fz : fillParts Zn [] = some Zn := rfl
  cases hm : okK zA 1 1 x
  · rw [hm] at hmay
    simp only [SQ, SQB, zm, AOp.opds, step, Opd.get, zk, bin, zc, IntKind.signed, zi, zj, zl, zb, unary, ze, zd, za, zo, zr, zh, zf, zg, zp, Cp.isFull, isNil, zq, simprocAttr, SQX, V.cells, e1, e2, e4, zC, zn (hmay _ _), fz, hz, at1_0, getParts, List.take_left]
  rw [hm] at hmay
  by_cases h0 : i < 0
  · have d0 := decide_eq_true h0
    simp only [SQ, SQB, zm, AOp.opds, step, Opd.get, bin, zc, IntKind.signed, zi, zj, zl, zb, unary, ze, zd, za, zo, zr, zh, zf, zg, zp, Cp.isFull, isNil, zq, simprocAttr, SQX, V.cells, e1, e2, e4, zC, zn (hmay _ _), fz, hz, at1_0, getParts, List.take_left, d0]
  have d0 := decide_eq_false h0
  by_cases h1 : (x.l.length : Int) ≤ i
  · have d1 := decide_eq_true h1
    simp only [SQ, SQB, zm, AOp.opds, step, Opd.get, bin, zc, IntKind.signed, zi, zj, zl, zb, unary, ze, zd, za, zo, zr, zh, zf, zg, zp, Cp.isFull, isNil, zq, simprocAttr, SQX, V.cells, e1, e2, e4, zC, zn (hmay _ _), fz, hz, at1_0, getParts, List.take_left, d0, ll, d1]
  have d1 := decide_eq_false h1
  obtain ⟨n, rfl⟩ : ∃ n : Nat, i = n := ⟨i.toNat, by omega⟩
  have hh : n < x.l.length := by omega
  obtain ⟨r, hr1, hr2⟩ := hl.get hh
  obtain ⟨lv2, rfl, _⟩ := hr2.open
  have k2 : x.l[n].kind = 2 := by
    unfold isItem at hn
    rw [hm, Int.toNat_natCast, List.getElem?_eq_getElem hh, decide_eq_true (show 0 ≤ (n : Int) ∧ (n : Int) < x.l.length by omega)] at hn
    simpa using hn
  have d2 := decide_eq_true k2
  have d0' : decide ((n : Int) < 0) = false := decide_eq_false (by omega)
  simp only [SQ, SQB, zm, AOp.opds, step, Opd.get, bin, zc, IntKind.signed, zj, zl, zb, unary, ze, zd, za, zo, zr, zh, zf, zg, zp, Cp.isFull, isNil, zq, simprocAttr, SQX, V.cells, e1, e2, e4, zC, zn (hmay _ _), fz, hz, at1_0, getParts, List.take_left, d0', ll, hh, Nat.not_le.2 hh, hr1, d2]
theorem citem_yes {base : Nat} {x : Nd} {lv : V} (n : Nat) (h : Heap) (hv : NdV x (ndC x lv)) (hl : LV lv x.l) (hh : n < x.l.length) (hm : okK zA 1 1 x = true) (hk : x.l[n].kind ≠ 2) : ∃ lv2, LV lv2 x.l[n].l ∧ WpF S0 base k_check_item [.agg (ndC x lv), .sc (.int .i64 n)] h fun v h' => v = .tup [.agg (ndC x.l[n] lv2), .bool true] ∧ h' = h := by
  have hmay := fun base h => aMay_r (base := base) h hv
  rw [hm] at hmay
  have ll := hl.len
  have lt := hl.lt
  obtain ⟨r, hr1, hr2⟩ := hl.get hh
  obtain ⟨lv2, rfl, hl2⟩ := hr2.open
  refine ⟨lv2, hl2, ?_⟩
  first | refine zu (A := f_check_item) rfl rfl rfl rfl ?_ | refine zB (A := f_check_item) rfl rfl rfl rfl ?_
  simp only [f_check_item, ndC]
  refine zw (fun en' h' => en' 2 = .eptr (ndC x lv) 0 ∧ en' 1 = .sc (.int .i64 n) ∧ en' 4 = .ptr h.length 0 ∧ h' = h ++ [.box 24 Zn]) ?_ ?_
  · simp only [SQ, SQB, zm, AOp.opds, step, Opd.get, zk, bin, zc, IntKind.signed, zi, zj, zl, zb, unary, ze, zd, za, zo, zr, zh, zf, zg, zp, Cp.isFull, isNil, zq, simprocAttr, SQX, V.cells, hl.gr]
  rintro en1 h1 ⟨e2, e1, e4, rfl⟩
  have hz := st1a (h := h) (t := 24) (cs := Zn) (ds := ndC x.l[n] lv2) rfl rfl (by simp only [List.all_cons, List.all_nil, hl2.one]; rfl)
  have d2 := decide_eq_false hk
  have d0' : decide ((n : Int) < 0) = false := decide_eq_false (by omega)
  simp only [SQ, SQB, zm, AOp.opds, step, Opd.get, bin, zc, IntKind.signed, zj, zl, zb, unary, ze, zd, za, zo, zr, zh, zf, zg, zp, Cp.isFull, isNil, zq, simprocAttr, SQX, V.cells, e1, e2, e4, zC, zn (hmay _ _), hz, at1_0, List.take_left, d0', ll, hh, Nat.not_le.2 hh, hr1, d2, hl2.gr]
  rcases hl2 with ⟨rfl, _⟩ | ⟨ex, rows, rfl, _⟩
  · simp only [SQ, SQB, zm, AOp.opds, step, Opd.get, zk, bin, zc, IntKind.signed, zi, zj, zl, zb, unary, ze, zd, za, zo, zr, zh, zf, zg, zp, Cp.isFull, isNil, zq, simprocAttr, SQX, V.cells, V.nilS]
  · simp only [SQ, SQB, zm, AOp.opds, step, Opd.get, zk, bin, zc, IntKind.signed, zi, zj, zl, zb, unary, ze, zd, za, zo, zr, zh, zf, zg, zp, Cp.isFull, isNil, zq, simprocAttr, SQX, V.cells]
end
section
abbrev mEntV (p : ByteArray × V) : Value × V := (.string p.1, p.2)
def getV : List (ByteArray × V) → ByteArray → Option V
  | [], _ => none
  | p :: r, t => if (t == p.1) = true then some p.2 else getV r t
def putV : List (ByteArray × V) → ByteArray → V → List (ByteArray × V)
  | [], s, n => [(s, n)]
  | p :: r, s, n => if (s == p.1) = true then (s, n) :: r else p :: putV r s n
theorem getV_put (s t : ByteArray) (n : V) : ∀ ms : List (ByteArray × V), getV (putV ms s n) t = if t = s then some n else getV ms t
  | [] => by simp only [putV, getV, ba_beq]
  | p :: r => by
    have ih := getV_put s t n r
    unfold putV
    by_cases h : s = p.1
    · rw [if_pos ((ba_beq _ _).2 h)]
      simp only [getV, ba_beq]
      by_cases h2 : t = s
      · rw [if_pos h2, if_pos h2]
      · rw [if_neg h2, if_neg h2, if_neg (fun q => h2 (q.trans h.symm))]
    · rw [if_neg (fun q => h ((ba_beq _ _).1 q))]
      simp only [getV, ba_beq, ih]
      by_cases h2 : t = p.1
      · rw [if_pos h2, if_neg (fun q => h (q.symm.trans h2)), if_pos h2]
      · rw [if_neg h2, if_neg h2]
theorem upd_mapV (s : ByteArray) (n : V) : ∀ (ms : List (ByteArray × V)) (pre : List (Value × V)), ((findM (.string s) (ms.map mEntV) pre.length).map fun r => match r with
      | some (i, _) => (pre ++ ms.map mEntV).set i (mEntV (s, n))
      | none => pre ++ ms.map mEntV ++ [mEntV (s, n)]) = some (pre ++ (putV ms s n).map mEntV)
  | [], pre => by simp [findM, putV]
  | p :: r, pre => by
    have ih := upd_mapV s n r (pre ++ [mEntV p])
    unfold putV
    simp only [List.map_cons, findM, keyEq]
    cases h : s == p.1
    · simp only [List.length_append, List.length_cons, List.length_nil, Nat.zero_add, List.append_assoc, List.cons_append, List.nil_append] at ih
      simpa using ih
    · simp [List.set_append_right]
theorem look_mapV (z : V) (t : ByteArray) : ∀ (ms : List (ByteArray × V)) (i : Nat), ∃ b, ((findM (.string t) (ms.map mEntV) i).map fun r => match r with
      | some (_, v) => (v, true)
      | none => (z, false)) = some ((getV ms t).getD z, b)
  | [], i => ⟨false, by simp [findM, getV]⟩
  | p :: r, i => by
    unfold getV
    simp only [List.map_cons, findM, keyEq]
    cases h : t == p.1
    · exact look_mapV z t r (i + 1)
    · exact ⟨true, rfl⟩
section
variable {h : Heap} {ms : List (ByteArray × V)} {b : Nat}
theorem upd_bV {base : Nat} (s : ByteArray) (n : V) (hg : h[b]? = some (.mmap (ms.map mEntV))) (hn : n.cells.all zm = true) (hm : mayStore base b [n] = true) : updateV base h .s (.mp b) (.sc (.string s)) n = some (h.set b (.mmap ((putV ms s n).map mEntV))) := by
  have hu := upd_mapV s n ms []
  simp only [List.nil_append, List.length_nil] at hu
  simp only [updateV, keyIs, Option.bind_some, hg]
  rw [if_pos ⟨hn, hm⟩]
  cases hf : findM (.string s) (ms.map mEntV) 0 with
  | none => rw [hf] at hu; simp at hu
  | some r =>
    rw [hf] at hu
    cases r with
    | none => simp only [Option.map_some, Option.some.injEq] at hu ⊢; rw [hu]
    | some p => obtain ⟨i, v⟩ := p; simp only [Option.map_some, Option.some.injEq] at hu ⊢; rw [hu]
theorem look_bV (z : V) (t : ByteArray) (hg : h[b]? = some (.mmap (ms.map mEntV))) : ∃ q, lookupV h .s z (.mp b) (.sc (.string t)) = some ((getV ms t).getD z, q) := by
  simp only [lookupV, keyIs, Option.bind_some, hg]
  exact look_mapV z t ms 0
end
abbrev zN : Nd := .mk 0 ⟨#[]⟩ ⟨#[]⟩ 0 0 0 []
def procN (p : List Nd) (t : ByteArray) : Nd := p.foldl (fun a y => if y.kind = 3 ∧ y.s = t then y else a) zN
def ProcM (p : List Nd) (mp : List (ByteArray × V)) : Prop := ∀ t, ∃ lv, (getV mp t).getD (.agg Zn) = .agg (ndC (procN p t) lv) ∧ LV lv (procN p t).l
theorem ProcM.look {p : List Nd} {mp : List (ByteArray × V)} {h : Heap} {d : Nat} (hp : ProcM p mp) (hd : h[d]? = some (.mmap (mp.map mEntV))) (t : ByteArray) : ∃ lv q, lookupV h .s (.agg Zn) (.mp d) (.sc (.string t)) = some (.agg (ndC (procN p t) lv), q) ∧ LV lv (procN p t).l := by
  obtain ⟨lv, e, hl⟩ := hp t
  obtain ⟨q, e2⟩ := look_bV (.agg Zn) t hd
  exact ⟨lv, q, by rw [e2, e], hl⟩
def headL (K A : ByteArray → Int) (k : Int) (s t : ByteArray) (ln : Int) (len : Nat) : List Ck :=
  (if (n2 k).1 = 0 then [] else needL (K s) (n2 k).1 ln) ++ (if (n2 k).2 = 0 then [] else needL (K t) (n2 k).2 ln) ++ (if k = 18 then [(!decide ((len : Int) = A t), ln, 26)] else [])
mutual
def walkL (K A : ByteArray → Int) : Nd → List Ck
  | .mk k s t _ _ ln l => headL K A k s t ln l.length ++ walkLs K A l
def walkLs (K A : ByteArray → Int) : List Nd → List Ck
  | [] => []
  | y :: r => walkL K A y ++ walkLs K A r
end
theorem walkLs_take {K A : ByteArray → Int} {l : List Nd} {i : Nat} (hi : i < l.length) : walkLs K A (l.take (i + 1)) = walkLs K A (l.take i) ++ walkL K A l[i] := by
  have app : ∀ a b : List Nd, walkLs K A (a ++ b) = walkLs K A a ++ walkLs K A b := by
    intro a b
    induction a with
    | nil => rfl
    | cons y r ih => simp only [List.cons_append, walkLs, ih, List.append_assoc]
  rw [List.take_add_one, List.getElem?_eq_getElem hi, app]
  simp [walkLs]
theorem walkL_eq (K A : ByteArray → Int) (x : Nd) : walkL K A x = headL K A x.kind x.s x.t x.line x.l.length ++ walkLs K A x.l := by cases x; rfl
structure WkH (h : Heap) (b c d1 d2 : Nat) (ms mg : List (ByteArray × Int)) (mp : List (ByteArray × V)) (pc : List V) : Prop where
  hb : h[b]? = some (.mmap (ms.map mEnt))
  hc : h[c]? = some (.box 49 pc)
  hd : h[d1]? = some (.mmap (mg.map mEnt))
  hp : h[d2]? = some (.mmap (mp.map mEntV))
theorem WkH.set {h : Heap} {b c d1 d2 : Nat} {ms mg : List (ByteArray × Int)} {mp : List (ByteArray × V)} {pc : List V} (w : WkH h b c d1 d2 ms mg mp pc) (pc' : List V) : WkH (h.set c (.box 49 pc')) b c d1 d2 ms mg mp pc' :=
  ⟨set_other w.hb w.hc (by simp), set_get w.hc, set_other w.hd w.hc (by simp), set_other w.hp w.hc (by simp)⟩
def WalkOk (p : List Nd) (y : Nd) : Prop := ∀ (base b c d1 d2 : Nat) (cs : List V) (h : Heap) (ms mg : List (ByteArray × Int)) (mp : List (ByteArray × V)) (x : Nd) (lv : V) (e : Er), NdV y cs → WkH h b c d1 d2 ms mg mp (ckC x lv d1 d2 e) → ProcM p mp →
  WpF S0 base k_check_checker_walk [.ptr c 0, .mp b, .agg cs] h fun v h' => v = .tup [] ∧ h' = h.set c (.box 49 (ckC x lv d1 d2 (hitE (walkL (kOf ms mg) (fun t => (procN p t).n) y) e)))
set_option maxHeartbeats 4000000 in
theorem walk_r (p : List Nd) (n : Nat) : ∀ (y : Nd), szN y ≤ n → WalkOk p y := by
  refine n.rec (fun x hn => ?_) (fun n ih y hn => ?_)
  · cases x; simp [szN] at hn
  have hm : ∀ z ∈ y.l, WalkOk p z := fun z hz => ih z (by have := sz_child hz; omega)
  intro base b c d1 d2 cs h ms mg mp x lv e hv hw hpm
  obtain ⟨lw, rfl, hl⟩ := hv.open
  have ll := hl.len
  have lt := hl.lt
  generalize hK : kOf ms mg = K
  generalize hA : (fun t => (procN p t).n) = A
  first | refine zu (A := f_check_checker_walk) rfl rfl rfl rfl ?_ | refine zB (A := f_check_checker_walk) rfl rfl rfl rfl ?_
  simp only [f_check_checker_walk, oD, cD]
  refine zw (fun en' h' => en' 5 = .eptr (ndC y lw) 0 ∧ en' 0 = .ptr c 0 ∧ en' 1 = .mp b ∧ h' = h) ?_ ?_
  · simp only [SQ, SQB, zm, AOp.opds, step, Opd.get, zk, bin, zc, IntKind.signed, zi, zj, zl, zb, unary, ze, zd, za, zo, zr, zh, zf, zg, zp, Cp.isFull, isNil, zq, simprocAttr, SQX, V.cells, hl.gr]
  rintro en1 h1 ⟨e5, e0, e1, rfl⟩
  refine zw (fun en' h' => en' 5 = .eptr (ndC y lw) 0 ∧ en' 0 = .ptr c 0 ∧ en' 1 = .mp b ∧ en' 6 = .sc (.int .i64 (n2 y.kind).1) ∧ en' 7 = .sc (.int .i64 (n2 y.kind).2) ∧ h' = h1) ?_ ?_
  · simp only [SQ, SQB, zm, AOp.opds, step, Opd.get, zk, bin, zc, IntKind.signed, zi, zj, zl, zb, unary, ze, zd, za, zo, zr, zh, zf, zg, zp, Cp.isFull, isNil, zq, simprocAttr, SQX, V.cells, e5, e0, e1, zn (names2_r _ _)]
  rintro en2 h2 ⟨f5, f0, f1, f6, f7, rfl⟩
  refine zw (fun en' h' => en' 5 = .eptr (ndC y lw) 0 ∧ en' 0 = .ptr c 0 ∧ en' 1 = .mp b ∧ en' 7 = .sc (.int .i64 (n2 y.kind).2) ∧ h' = h2.set c (.box 49 (ckC x lv d1 d2 (hitE (if (n2 y.kind).1 = 0 then [] else needL (K y.s) (n2 y.kind).1 y.line) e)))) ?_ ?_
  · have hne := fun base => need_r (base := base) y.s (n2 y.kind).1 y.line hw.hb hw.hc hw.hd
    rw [hK] at hne
    (simp only [SQ, zm, AOp.opds, step, Opd.get, zk, bin, zc, IntKind.signed, zi, zj, zl, zb, unary, ze, zd, za, zo, zr, zh, zf, zg, zp, Cp.isFull, isNil, zq, simprocAttr, SQX, V.cells, f5, f0, f1, f6, f7, zn (hne _)]; repeat' ((first | refine condQ_i ?_ ?_ | refine guardQ_t ?_ ?_ | refine guardQ_f ?_ ?_) <;> (intro hb; simp only [SQ, zm, AOp.opds, step, Opd.get, zk, bin, zc, IntKind.signed, zi, zj, zl, zb, unary, ze, zd, za, zo, zr, zh, zf, zg, zp, Cp.isFull, isNil, zq, simprocAttr, SQX, V.cells, hb, f5, f0, f1, f6, f7, zn (hne _)])))
    · simp_all
    · simp_all [set_same hw.hc, hitE]
  rintro en3 h3 ⟨g5, g0, g1, g7, rfl⟩
  generalize hE1 : hitE (if (n2 y.kind).1 = 0 then [] else needL (K y.s) (n2 y.kind).1 y.line) e = E1
  have hw1 := hw.set (ckC x lv d1 d2 E1)
  refine zw (fun en' h' => en' 5 = .eptr (ndC y lw) 0 ∧ en' 0 = .ptr c 0 ∧ en' 1 = .mp b ∧ h' = h2.set c (.box 49 (ckC x lv d1 d2 (hitE (if (n2 y.kind).2 = 0 then [] else needL (K y.t) (n2 y.kind).2 y.line) E1)))) ?_ ?_
  · have hne := fun base => need_r (base := base) y.t (n2 y.kind).2 y.line hw1.hb hw1.hc hw1.hd
    rw [hK] at hne
    (simp only [SQ, zm, AOp.opds, step, Opd.get, zk, bin, zc, IntKind.signed, zi, zj, zl, zb, unary, ze, zd, za, zo, zr, zh, zf, zg, zp, Cp.isFull, isNil, zq, simprocAttr, SQX, V.cells, g5, g0, g1, g7, zn (hne _), List.set_set]; repeat' ((first | refine condQ_i ?_ ?_ | refine guardQ_t ?_ ?_ | refine guardQ_f ?_ ?_) <;> (intro hb; simp only [SQ, zm, AOp.opds, step, Opd.get, zk, bin, zc, IntKind.signed, zi, zj, zl, zb, unary, ze, zd, za, zo, zr, zh, zf, zg, zp, Cp.isFull, isNil, zq, simprocAttr, SQX, V.cells, hb, g5, g0, g1, g7, zn (hne _), List.set_set])))
    · simp_all
    · simp_all [hitE]
  rintro en4 h4 ⟨i5, i0, i1, rfl⟩
  generalize hE2 : hitE (if (n2 y.kind).2 = 0 then [] else needL (K y.t) (n2 y.kind).2 y.line) E1 = E2
  have hw2 := hw.set (ckC x lv d1 d2 E2)
  refine zw (fun en' h' => en' 5 = .eptr (ndC y lw) 0 ∧ en' 0 = .ptr c 0 ∧ en' 1 = .mp b ∧ h' = h2.set c (.box 49 (ckC x lv d1 d2 (hitE (headL K A y.kind y.s y.t y.line y.l.length) e)))) ?_ ?_
  · have hwr := fun base is line no => wrong_r (base := base) is line no hw2.hc
    obtain ⟨lp, q, hlk, _⟩ := hpm.look hw2.hp y.t
    have hA2 : (procN p y.t).n = A y.t := by rw [← hA]
    (simp only [SQ, zm, AOp.opds, step, Opd.get, bin, zc, IntKind.signed, zi, zj, zl, zb, unary, ze, zd, za, zo, zr, zh, zf, zg, zp, Cp.isFull, isNil, zq, simprocAttr, SQX, V.cells, i5, i0, i1, ll, hw2.hc, hlk, zn (hwr _ _ _ _), List.set_set, hA2]; repeat' ((first | refine condQ_i ?_ ?_ | refine guardQ_t ?_ ?_ | refine guardQ_f ?_ ?_) <;> (intro hb; simp only [SQ, zm, AOp.opds, step, Opd.get, bin, zc, IntKind.signed, zi, zj, zl, zb, unary, ze, zd, za, zo, zr, zh, zf, zg, zp, Cp.isFull, isNil, zq, simprocAttr, SQX, V.cells, hb, i5, i0, i1, ll, hw2.hc, hlk, zn (hwr _ _ _ _), List.set_set, hA2])))
    · simp_all [headL, hit_app, hitE]
    · simp_all [headL, hit_app, hitE]
  rintro en5 h5 ⟨j5, j0, j1, rfl⟩
  have hfin := walkL_eq K A y
  generalize headL K A y.kind y.s y.t y.line y.l.length = HL at hfin j5
  simp only [SQ, SQB, zm, AOp.opds, step, Opd.get, bin, zc, IntKind.signed, zi, zj, zl, zb, unary, ze, zd, za, zo, zr, zh, zf, zg, zp, Cp.isFull, isNil, zq, simprocAttr, SQX, V.cells, j5, j0, j1, ll]
  refine WpC_loopI (fun k en h' => ∃ i : Nat, k = y.l.length - i ∧ i ≤ y.l.length ∧ en 58 = V.int i ∧ en 57 = V.int y.l.length ∧ en 56 = lw ∧ en 0 = .ptr c 0 ∧ en 1 = .mp b ∧ h' = h2.set c (.box 49 (ckC x lv d1 d2 (hitE (HL ++ walkLs K A (y.l.take i)) e)))) y.l.length ⟨0, rfl, Nat.zero_le _, rfl, rfl, rfl, j0, j1, by simp [walkLs]⟩ ?_
  rintro k en h' ⟨i, rfl, hi, i58, i57, i56, i0, i1, rfl⟩
  by_cases hh : i < y.l.length
  · obtain ⟨r, hr1, hr2⟩ := hl.get hh
    obtain ⟨lv2, rfl, hl2⟩ := hr2.open
    have hwi := fun base => hm y.l[i] (List.getElem_mem hh) base b c d1 d2 _ _ ms mg mp x lv _ hr2 (hw.set (ckC x lv d1 d2 (hitE (HL ++ walkLs K A (y.l.take i)) e))) hpm
    rw [hK, hA] at hwi
    simp only [SQ, SQB, zm, AOp.opds, step, Opd.get, bin, zc, IntKind.signed, zj, zl, zb, unary, ze, zd, za, zo, zr, zh, zf, zg, zp, Cp.isFull, isNil, zq, simprocAttr, SQX, V.cells, i58, i57, i56, i0, i1, hh, hr1, zC, hl2.gr, zn (hwi _), List.set_set]
    exact ⟨y.l.length - (i + 1), by omega, i + 1, rfl, by omega, by rw [wrap_i64 (by omega) (by omega)]; rfl, by rw [walkLs_take hh, ← List.append_assoc, hit_app (HL ++ walkLs K A (y.l.take i))]⟩
  · have : y.l.take i = y.l := List.take_of_length_le (by omega)
    rw [this, ← hfin]
    simp only [SQ, SQB, zm, AOp.opds, step, Opd.get, bin, zc, IntKind.signed, zj, zl, zb, unary, ze, zd, za, zo, zr, zh, zf, zg, zp, Cp.isFull, isNil, zq, simprocAttr, SQX, V.cells, i58, i57, i56, i0, i1, hh, set_take]
end
section
def ckH (h : Heap) (c : Nat) (x : Nd) (lv : V) (d1 d2 : Nat) (e : Er) (ms : List (ByteArray × Int)) : Heap := h.set c (.box 49 (ckC x lv d1 d2 e)) ++ [.mmap (ms.map mEnt)]
section
variable {h : Heap} {c : Nat} {x : Nd} {lv : V} {d1 d2 : Nat} {e e' e0 : Er} {ms ms' : List (ByteArray × Int)} {b : Nat} {o : Obj}
theorem ckH_c (hc : h[c]? = some (.box 49 (ckC x lv d1 d2 e0))) : (ckH h c x lv d1 d2 e ms)[c]? = some (.box 49 (ckC x lv d1 d2 e)) := by
  have := (List.getElem?_eq_some_iff.1 hc).1
  unfold ckH
  rw [List.getElem?_append_left (by simpa using this)]
  exact set_get hc
theorem ckH_m : (ckH h c x lv d1 d2 e ms)[h.length]? = some (.mmap (ms.map mEnt)) := by
  unfold ckH
  rw [List.getElem?_append_right (by simp)]
  simp
theorem ckH_o {m : List (Value × V)} (hc : h[c]? = some (.box 49 (ckC x lv d1 d2 e0))) (hb : h[b]? = some (.mmap m)) : (ckH h c x lv d1 d2 e ms)[b]? = some (.mmap m) := by
  have := (List.getElem?_eq_some_iff.1 hb).1
  unfold ckH
  rw [List.getElem?_append_left (by simpa using this)]
  exact set_other hb hc (by simp)
theorem ckH_setc (hc : h[c]? = some (.box 49 (ckC x lv d1 d2 e0))) : (ckH h c x lv d1 d2 e ms).set c (.box 49 (ckC x lv d1 d2 e')) = ckH h c x lv d1 d2 e' ms := by
  have := (List.getElem?_eq_some_iff.1 hc).1
  unfold ckH
  rw [List.set_append_left _ _ (by simpa using this), List.set_set]
theorem ckH_setm : (ckH h c x lv d1 d2 e ms).set h.length (.mmap (ms'.map mEnt)) = ckH h c x lv d1 d2 e ms' := by
  unfold ckH
  rw [List.set_append_right _ _ (by simp)]
  simp
theorem ckH_take : (ckH h c x lv d1 d2 e ms).take h.length = h.set c (.box 49 (ckC x lv d1 d2 e)) := by
  unfold ckH
  rw [List.take_append_of_le_length (by simp), List.take_of_length_le (by simp)]
theorem ckH_new (hc : h[c]? = some (.box 49 (ckC x lv d1 d2 e))) : h ++ [.mmap []] = ckH h c x lv d1 d2 e [] := by
  unfold ckH
  rw [set_same hc]
  rfl
end
def Met (ms : List (ByteArray × Int)) (seen : List ByteArray) : Prop := ∀ s, getI ms s = if inB seen s = true then 1 else 0
theorem inB_nil (s : ByteArray) : inB [] s = false := rfl
theorem inB_cons (t s : ByteArray) (l : List ByteArray) : inB (t :: l) s = (decide (t = s) || inB l s) := by
  simp only [inB, List.any_cons, list_eq]
theorem inB_iff (l : List ByteArray) (s : ByteArray) : inB l s = true ↔ s ∈ l := by
  induction l with
  | nil => simp [inB]
  | cons t l ih => rw [inB_cons, Bool.or_eq_true, decide_eq_true_eq, ih, List.mem_cons, eq_comm]
theorem Met.gt {ms : List (ByteArray × Int)} {seen : List ByteArray} (h : Met ms seen) (s : ByteArray) : decide (0 < getI ms s) = inB seen s := by
  rw [h s]
  cases inB seen s <;> simp
theorem Met.put {ms : List (ByteArray × Int)} {seen : List ByteArray} (h : Met ms seen) (s : ByteArray) : Met (putI ms s 1) (s :: seen) := by
  intro t
  rw [get_put, h t, inB_cons]
  by_cases q : t = s
  · simp [q]
  · simp [q, show ¬ s = t from fun w => q w.symm]
abbrev resT : ByteArray := ⟨#[114, 101, 115, 117, 108, 116]⟩
def dStep (G : ByteArray → Int) (st : List ByteArray × List Ck) (d : Nd) : List ByteArray × List Ck :=
  if d.kind = 7 then st else (d.s :: st.1, st.2 ++ [(inB st.1 d.s || !decide (G d.s = 0), d.line, 24), (decide (d.kind = 6) && (decide (d.n < 1) || decide (250 < d.n)), d.line, 28)])
def declF (G : ByteArray → Int) (y : Nd) (l : List Nd) : List ByteArray × List Ck := l.foldl (dStep G) (if y.kind = 3 then [resT] else [], [])
section
variable {base b c d1 d2 : Nat} {h : Heap} {x : Nd} {lv : V} {e : Er} {mg : List (ByteArray × Int)}
set_option maxHeartbeats 4000000 in
theorem declared_r {y : Nd} {cs : List V} (hv : NdV y cs) (hc : h[c]? = some (.box 49 (ckC x lv d1 d2 e))) (hd : h[d1]? = some (.mmap (mg.map mEnt))) :
    WpF S0 base k_check_checker_declared [.ptr c 0, .agg cs] h fun v h' => v = .tup [] ∧ h' = h.set c (.box 49 (ckC x lv d1 d2 (hitE (declF (getI mg) y y.l).2 e))) := by
  obtain ⟨lw, rfl, hl⟩ := hv.open
  have ll := hl.len
  have lt := hl.lt
  first | refine zu (A := f_check_checker_declared) rfl rfl rfl rfl ?_ | refine zB (A := f_check_checker_declared) rfl rfl rfl rfl ?_
  simp only [f_check_checker_declared, oD, cD]
  refine zw (fun en' h' => en' 3 = .eptr (ndC y lw) 0 ∧ en' 0 = .ptr c 0 ∧ h' = h) ?_ ?_
  · simp only [SQ, SQB, zm, AOp.opds, step, Opd.get, zk, bin, zc, IntKind.signed, zi, zj, zl, zb, unary, ze, zd, za, zo, zr, zh, zf, zg, zp, Cp.isFull, isNil, zq, simprocAttr, SQX, V.cells, hl.gr]
  rintro en1 h1 ⟨e3, e0, rfl⟩
  refine zw (fun en' h' => en' 3 = .eptr (ndC y lw) 0 ∧ en' 0 = .ptr c 0 ∧ en' 4 = .mp h1.length ∧ h' = ckH h1 c x lv d1 d2 e []) ?_ ?_
  · simp only [SQ, SQB, zm, AOp.opds, step, Opd.get, zk, bin, zc, IntKind.signed, zi, zj, zl, zb, unary, ze, zd, za, zo, zr, zh, zf, zg, zp, Cp.isFull, isNil, zq, simprocAttr, SQX, V.cells, e3, e0, ckH_new hc]
  rintro en2 h2 ⟨f3, f0, f4, rfl⟩
  have hup := fun (E : Er) (ms : List (ByteArray × Int)) (s : ByteArray) (n : Int) => upd_b (base := h1.length) s n (ckH_m (h := h1) (c := c) (x := x) (lv := lv) (d1 := d1) (d2 := d2) (e := E) (ms := ms))
  refine zw (fun en' h' => en' 3 = .eptr (ndC y lw) 0 ∧ en' 0 = .ptr c 0 ∧ en' 4 = .mp h1.length ∧ ∃ ms, Met ms (if y.kind = 3 then [resT] else []) ∧ h' = ckH h1 c x lv d1 d2 e ms) ?_ ?_
  · (simp only [SQ, zm, AOp.opds, step, Opd.get, zk, bin, zc, IntKind.signed, zi, zj, zl, zb, unary, ze, zd, za, zo, zr, zh, zf, zg, zp, Cp.isFull, isNil, zq, simprocAttr, SQX, V.cells, f3, f0, f4, hup, ckH_setm]; repeat' ((first | refine condQ_i ?_ ?_ | refine guardQ_t ?_ ?_ | refine guardQ_f ?_ ?_) <;> (intro hb; simp only [SQ, zm, AOp.opds, step, Opd.get, zk, bin, zc, IntKind.signed, zi, zj, zl, zb, unary, ze, zd, za, zo, zr, zh, zf, zg, zp, Cp.isFull, isNil, zq, simprocAttr, SQX, V.cells, hb, f3, f0, f4, hup, ckH_setm])))
    · have := of_decide_eq_true hb
      exact ⟨_, by rw [if_pos this]; exact Met.put (fun s => by simp [getI, inB_nil]) _, rfl⟩
    · have := of_decide_eq_false hb
      exact ⟨_, by rw [if_neg this]; exact fun s => by simp [getI, inB_nil], rfl⟩
  rintro en3 h3 ⟨g3, g0, g4, ms0, hms0, rfl⟩
  simp only [SQ, SQB, zm, AOp.opds, step, Opd.get, bin, zc, IntKind.signed, zi, zj, zl, zb, unary, ze, zd, za, zo, zr, zh, zf, zg, zp, Cp.isFull, isNil, zq, simprocAttr, SQX, V.cells, g3, g0, g4, ll]
  refine WpC_loopI (fun k en h' => ∃ i : Nat, k = y.l.length - i ∧ i ≤ y.l.length ∧ en 15 = V.int i ∧ en 14 = V.int y.l.length ∧ en 13 = lw ∧ en 0 = .ptr c 0 ∧ en 4 = .mp h1.length ∧ ∃ ms, h' = ckH h1 c x lv d1 d2 (hitE (declF (getI mg) y (y.l.take i)).2 e) ms ∧ Met ms (declF (getI mg) y (y.l.take i)).1) y.l.length ⟨0, rfl, Nat.zero_le _, rfl, rfl, rfl, g0, g4, ms0, rfl, hms0⟩ ?_
  rintro k en h' ⟨i, rfl, hi, i15, i14, i13, i0, i4, ms, rfl, hms⟩
  by_cases hh : i < y.l.length
  · obtain ⟨r, hr1, hr2⟩ := hl.get hh
    obtain ⟨lv2, rfl, hl2⟩ := hr2.open
    have hf : declF (getI mg) y (y.l.take (i + 1)) = dStep (getI mg) (declF (getI mg) y (y.l.take i)) y.l[i] := foldl_take hh
    generalize declF (getI mg) y (y.l.take i) = st at hf hms
    have hgt := hms.gt y.l[i].s
    obtain ⟨q1, hl1⟩ := look_b y.l[i].s (ckH_m (h := h1) (c := c) (x := x) (lv := lv) (d1 := d1) (d2 := d2) (e := hitE st.2 e) (ms := ms))
    obtain ⟨q2, hl2'⟩ := look_b y.l[i].s (ckH_o (e := hitE st.2 e) (ms := ms) hc hd)
    have hwr := fun base (E : Er) (ms : List (ByteArray × Int)) is line no => wrong_r (base := base) is line no (ckH_c (e := E) (ms := ms) hc)
    have hck := ckH_c (e := hitE st.2 e) (ms := ms) hc
    (simp only [SQ, zm, AOp.opds, step, Opd.get, bin, zc, IntKind.signed, zj, zl, zb, unary, ze, zd, za, zo, zr, zh, zf, zg, zp, Cp.isFull, isNil, zq, simprocAttr, SQX, V.cells, i15, i14, i13, i0, i4, hh, hr1, zC, hl2.gr, hl1, hl2', hgt, hck, zn (hwr _ _ _ _ _ _), ckH_setc hc, ckH_setm, hup]; repeat' ((first | refine condQ_i ?_ ?_ | refine guardQ_t ?_ ?_ | refine guardQ_f ?_ ?_) <;> (intro hb; simp only [SQ, zm, AOp.opds, step, Opd.get, bin, zc, IntKind.signed, zj, zl, zb, unary, ze, zd, za, zo, zr, zh, zf, zg, zp, Cp.isFull, isNil, zq, simprocAttr, SQX, V.cells, hb, i15, i14, i13, i0, i4, hh, hr1, zC, hl2.gr, hl1, hl2', hgt, hck, zn (hwr _ _ _ _ _ _), ckH_setc hc, ckH_setm, hup])))
    all_goals refine ⟨y.l.length - (i + 1), by omega, i + 1, rfl, by omega, by rw [wrap_i64 (by omega) (by omega)]; rfl, ?_⟩
    all_goals clear hwr hup hl1 hl2' hck hr1 hr2 hv
    all_goals refine ⟨_, congrArg (fun E => ckH h1 c x lv d1 d2 E _) ?_, ?_⟩
    all_goals first
      | (rw [hf]; simp_all [dStep]; done)
      | (rw [hf]; simp_all [dStep, hms.put]; done)
      | (rw [hf]; simp_all [dStep, hitE, List.foldl_append]; done)
      | (rw [hf]; simp_all [dStep, hitE, List.foldl_append]; rw [decide_eq_false (show ¬ y.l[i].n < 1 by omega)]; rfl)
  · have : y.l.take i = y.l := List.take_of_length_le (by omega)
    rw [this] at hms ⊢
    simp only [SQ, SQB, zm, AOp.opds, step, Opd.get, bin, zc, IntKind.signed, zj, zl, zb, unary, ze, zd, za, zo, zr, zh, zf, zg, zp, Cp.isFull, isNil, zq, simprocAttr, SQX, V.cells, i15, i14, i13, i0, i4, hh, ckH_take]
def gStepC (st : List ByteArray × Int × List Ck) (y : Nd) : List ByteArray × Int × List Ck :=
  if y.kind = 4 then st else (y.s :: st.1, if y.kind = 2 then st.2.1 + 1 else st.2.1, st.2.2 ++ (inB st.1 y.s, y.line, 24) :: (if y.kind = 2 then [(decide (st.2.1 = 200), y.line, 30)] else []))
def globF (l : List Nd) : List ByteArray × Int × List Ck := l.foldl gStepC ([], 0, [])
theorem globF_le : ∀ (l : List Nd) (st : List ByteArray × Int × List Ck), st.2.1 ≤ (l.foldl gStepC st).2.1 ∧ (l.foldl gStepC st).2.1 ≤ st.2.1 + l.length
  | [], st => by simp
  | y :: r, st => by
    have ih := globF_le r (gStepC st y)
    have : st.2.1 ≤ (gStepC st y).2.1 ∧ (gStepC st y).2.1 ≤ st.2.1 + 1 := by
      unfold gStepC
      split
      · omega
      · dsimp only; split <;> omega
    simp only [List.foldl_cons, List.length_cons]
    omega
set_option maxHeartbeats 4000000 in
theorem globals_r (hl : LV lv x.l) (hc : h[c]? = some (.box 49 (ckC x lv d1 d2 e))) :
    WpF S0 base k_check_checker_globals [.ptr c 0] h fun v h' => v = .tup [] ∧ h' = h.set c (.box 49 (ckC x lv d1 d2 (hitE (globF x.l).2.2 e))) := by
  have ll := hl.len
  have lt := hl.lt
  have hup := fun (E : Er) (ms : List (ByteArray × Int)) (s : ByteArray) (n : Int) => upd_b (base := h.length) s n (ckH_m (h := h) (c := c) (x := x) (lv := lv) (d1 := d1) (d2 := d2) (e := E) (ms := ms))
  first | refine zu (A := f_check_checker_globals) rfl rfl rfl rfl ?_ | refine zB (A := f_check_checker_globals) rfl rfl rfl rfl ?_
  simp only [f_check_checker_globals, oD, cD]
  refine zw (fun en' h' => en' 2 = .mp h.length ∧ en' 0 = .ptr c 0 ∧ h' = ckH h c x lv d1 d2 e []) ?_ ?_
  · simp only [SQ, SQB, zm, AOp.opds, step, Opd.get, zk, bin, zc, IntKind.signed, zi, zj, zl, zb, unary, ze, zd, za, zo, zr, zh, zf, zg, zp, Cp.isFull, isNil, zq, simprocAttr, SQX, V.cells, ckH_new hc]
  rintro en1 h1 ⟨f2, f0, rfl⟩
  have hc1 := ckH_c (e := e) (ms := []) hc
  simp only [SQ, SQB, zm, AOp.opds, step, Opd.get, bin, zc, IntKind.signed, zi, zj, zl, zb, unary, ze, zd, za, zo, zr, zh, zf, zg, zp, Cp.isFull, isNil, zq, simprocAttr, SQX, V.cells, f2, f0, hc1, ll]
  refine WpC_loopI (fun k en h' => ∃ i : Nat, k = x.l.length - i ∧ i ≤ x.l.length ∧ en 13 = V.int i ∧ en 12 = V.int x.l.length ∧ en 11 = lv ∧ en 0 = .ptr c 0 ∧ en 2 = .mp h.length ∧ en 3 = .sc (.int .i64 (globF (x.l.take i)).2.1) ∧ ∃ ms, h' = ckH h c x lv d1 d2 (hitE (globF (x.l.take i)).2.2 e) ms ∧ Met ms (globF (x.l.take i)).1) x.l.length ⟨0, rfl, Nat.zero_le _, rfl, rfl, rfl, f0, f2, rfl, [], rfl, fun s => by simp [getI, globF, inB_nil]⟩ ?_
  rintro k en h' ⟨i, rfl, hi, i13, i12, i11, i0, i2, i3, ms, rfl, hms⟩
  by_cases hh : i < x.l.length
  · obtain ⟨r, hr1, hr2⟩ := hl.get hh
    obtain ⟨lv2, rfl, hl2⟩ := hr2.open
    have hf : globF (x.l.take (i + 1)) = gStepC (globF (x.l.take i)) x.l[i] := foldl_take hh
    have hle := globF_le (x.l.take i) ([], 0, [])
    rw [List.length_take] at hle
    have hle' : 0 ≤ (globF (x.l.take i)).2.1 ∧ (globF (x.l.take i)).2.1 ≤ i := by unfold globF; simp only at hle; omega
    generalize globF (x.l.take i) = st at hf hms hle' i3
    have hgt := hms.gt x.l[i].s
    obtain ⟨q1, hl1⟩ := look_b x.l[i].s (ckH_m (h := h) (c := c) (x := x) (lv := lv) (d1 := d1) (d2 := d2) (e := hitE st.2.2 e) (ms := ms))
    have hwr := fun base (E : Er) (ms : List (ByteArray × Int)) is line no => wrong_r (base := base) is line no (ckH_c (e := E) (ms := ms) hc)
    have hadd : IntKind.i64.wrap (st.2.1 + 1) = st.2.1 + 1 := wrap_i64 (by omega) (by omega)
    (simp only [SQ, zm, AOp.opds, step, Opd.get, bin, zc, IntKind.signed, zj, zl, zb, unary, ze, zd, za, zo, zr, zh, zf, zg, zp, Cp.isFull, isNil, zq, simprocAttr, SQX, V.cells, i13, i12, i11, i0, i2, i3, hh, hr1, zC, hl2.gr, hl1, hgt, zn (hwr _ _ _ _ _ _), ckH_setc hc, ckH_setm, hup, hadd]; repeat' ((first | refine condQ_i ?_ ?_ | refine guardQ_t ?_ ?_ | refine guardQ_f ?_ ?_) <;> (intro hb; simp only [SQ, zm, AOp.opds, step, Opd.get, bin, zc, IntKind.signed, zj, zl, zb, unary, ze, zd, za, zo, zr, zh, zf, zg, zp, Cp.isFull, isNil, zq, simprocAttr, SQX, V.cells, hb, i13, i12, i11, i0, i2, i3, hh, hr1, zC, hl2.gr, hl1, hgt, zn (hwr _ _ _ _ _ _), ckH_setc hc, ckH_setm, hup, hadd])))
    all_goals refine ⟨x.l.length - (i + 1), by omega, i + 1, rfl, by omega, by rw [wrap_i64 (by omega) (by omega)]; rfl, ?_⟩
    all_goals clear hwr hup hl1 hr1 hr2
    all_goals refine ⟨by rw [hf]; simp_all [gStepC], _, congrArg (fun E => ckH h c x lv d1 d2 E _) ?_, ?_⟩
    all_goals first
      | (rw [hf]; simp_all [gStepC]; done)
      | (rw [hf]; simp_all [gStepC, hms.put]; done)
      | (rw [hf]; simp_all [gStepC, hitE, List.foldl_append]; done)
  · have : x.l.take i = x.l := List.take_of_length_le (by omega)
    rw [this]
    simp only [SQ, SQB, zm, AOp.opds, step, Opd.get, bin, zc, IntKind.signed, zj, zl, zb, unary, ze, zd, za, zo, zr, zh, zf, zg, zp, Cp.isFull, isNil, zq, simprocAttr, SQX, V.cells, i13, i12, i11, i0, i2, i3, hh, ckH_take]
def tStep (st : Int × List Ck) (y : Nd) : Int × List Ck := if y.kind = 4 then (st.1 + 1, st.2 ++ [(decide (st.1 = 8), y.line, 29)]) else st
def thrF (l : List Nd) : Int × List Ck := l.foldl tStep (0, [])
def thrL (l : List Nd) : List Ck := (thrF l).2 ++ [(decide ((thrF l).1 = 0), 0, 29)]
theorem thrF_le : ∀ (l : List Nd) (st : Int × List Ck), st.1 ≤ (l.foldl tStep st).1 ∧ (l.foldl tStep st).1 ≤ st.1 + l.length
  | [], st => by simp
  | y :: r, st => by
    have ih := thrF_le r (tStep st y)
    have : st.1 ≤ (tStep st y).1 ∧ (tStep st y).1 ≤ st.1 + 1 := by
      unfold tStep
      split
      · simp only; omega
      · omega
    simp only [List.foldl_cons, List.length_cons]
    omega
set_option maxHeartbeats 4000000 in
theorem threads_r (hl : LV lv x.l) (hc : h[c]? = some (.box 49 (ckC x lv d1 d2 e))) :
    WpF S0 base k_check_checker_threads [.ptr c 0] h fun v h' => v = .tup [] ∧ h' = h.set c (.box 49 (ckC x lv d1 d2 (hitE (thrL x.l) e))) := by
  have ll := hl.len
  have lt := hl.lt
  have hwr := fun base (E : Er) is line no => wrong_r (base := base) is line no (set_get (p := .box 49 (ckC x lv d1 d2 E)) hc)
  first | refine zu (A := f_check_checker_threads) rfl rfl rfl rfl ?_ | refine zB (A := f_check_checker_threads) rfl rfl rfl rfl ?_
  simp only [f_check_checker_threads, oD, cD]
  refine zw (fun en' h' => en' 2 = .sc (.int .i64 0) ∧ en' 0 = .ptr c 0 ∧ h' = h) ?_ ?_
  · simp only [SQ, SQB, zm, AOp.opds, step, Opd.get, zk, bin, zc, IntKind.signed, zi, zj, zl, zb, unary, ze, zd, za, zo, zr, zh, zf, zg, zp, Cp.isFull, isNil, zq, simprocAttr, SQX, V.cells]
  rintro en1 h1 ⟨f2, f0, rfl⟩
  refine zw (fun en' h' => en' 0 = .ptr c 0 ∧ en' 2 = .sc (.int .i64 (thrF x.l).1) ∧ h' = h1.set c (.box 49 (ckC x lv d1 d2 (hitE (thrF x.l).2 e)))) ?_ ?_
  · simp only [SQ, SQB, zm, AOp.opds, step, Opd.get, bin, zc, IntKind.signed, zi, zj, zl, zb, unary, ze, zd, za, zo, zr, zh, zf, zg, zp, Cp.isFull, isNil, zq, simprocAttr, SQX, V.cells, f2, f0, hc, ll]
    refine WpC_loopI (fun k en h' => ∃ i : Nat, k = x.l.length - i ∧ i ≤ x.l.length ∧ en 11 = V.int i ∧ en 10 = V.int x.l.length ∧ en 9 = lv ∧ en 0 = .ptr c 0 ∧ en 2 = .sc (.int .i64 (thrF (x.l.take i)).1) ∧ h' = h1.set c (.box 49 (ckC x lv d1 d2 (hitE (thrF (x.l.take i)).2 e)))) x.l.length ⟨0, rfl, Nat.zero_le _, rfl, rfl, rfl, f0, f2, (set_same hc).symm⟩ ?_
    rintro k en h' ⟨i, rfl, hi, i11, i10, i9, i0, i2, rfl⟩
    by_cases hh : i < x.l.length
    · obtain ⟨r, hr1, hr2⟩ := hl.get hh
      obtain ⟨lv2, rfl, hl2⟩ := hr2.open
      have hf : thrF (x.l.take (i + 1)) = tStep (thrF (x.l.take i)) x.l[i] := foldl_take hh
      have hle := thrF_le (x.l.take i) (0, [])
      rw [List.length_take] at hle
      have hle' : 0 ≤ (thrF (x.l.take i)).1 ∧ (thrF (x.l.take i)).1 ≤ i := by unfold thrF; simp only at hle; omega
      generalize thrF (x.l.take i) = st at hf hle' i2
      have hadd : IntKind.i64.wrap (st.1 + 1) = st.1 + 1 := wrap_i64 (by omega) (by omega)
      (simp only [SQ, zm, AOp.opds, step, Opd.get, bin, zc, IntKind.signed, zj, zl, zb, unary, ze, zd, za, zo, zr, zh, zf, zg, zp, Cp.isFull, isNil, zq, simprocAttr, SQX, V.cells, i11, i10, i9, i0, i2, hh, hr1, zC, hl2.gr, zn (hwr _ _ _ _ _), List.set_set, hadd]; repeat' ((first | refine condQ_i ?_ ?_ | refine guardQ_t ?_ ?_ | refine guardQ_f ?_ ?_) <;> (intro hb; simp only [SQ, zm, AOp.opds, step, Opd.get, bin, zc, IntKind.signed, zj, zl, zb, unary, ze, zd, za, zo, zr, zh, zf, zg, zp, Cp.isFull, isNil, zq, simprocAttr, SQX, V.cells, hb, i11, i10, i9, i0, i2, hh, hr1, zC, hl2.gr, zn (hwr _ _ _ _ _), List.set_set, hadd])))
      all_goals refine ⟨x.l.length - (i + 1), by omega, i + 1, rfl, by omega, by rw [wrap_i64 (by omega) (by omega)]; rfl, ?_⟩
      all_goals clear hwr hr1 hr2
      all_goals (rw [hf]; simp_all [tStep, hitE, List.foldl_append]; done)
    · have : x.l.take i = x.l := List.take_of_length_le (by omega)
      rw [this] at i2 ⊢
      simp only [SQ, SQB, zm, AOp.opds, step, Opd.get, bin, zc, IntKind.signed, zj, zl, zb, unary, ze, zd, za, zo, zr, zh, zf, zg, zp, Cp.isFull, isNil, zq, simprocAttr, SQX, V.cells, i11, i10, i9, i0, i2, hh]
  rintro en2 h2 ⟨g0, g2, rfl⟩
  (simp only [SQ, zm, AOp.opds, step, Opd.get, zk, bin, zc, IntKind.signed, zi, zj, zl, zb, unary, ze, zd, za, zo, zr, zh, zf, zg, zp, Cp.isFull, isNil, zq, simprocAttr, SQX, V.cells, g0, g2, zn (hwr _ _ _ _ _), List.set_set, set_take]; repeat' ((first | refine condQ_i ?_ ?_ | refine guardQ_t ?_ ?_ | refine guardQ_f ?_ ?_) <;> (intro hb; simp only [SQ, zm, AOp.opds, step, Opd.get, zk, bin, zc, IntKind.signed, zi, zj, zl, zb, unary, ze, zd, za, zo, zr, zh, zf, zg, zp, Cp.isFull, isNil, zq, simprocAttr, SQX, V.cells, hb, g0, g2, zn (hwr _ _ _ _ _), List.set_set, set_take])))
  rw [thrL, hit_app]
  rfl
end
end
end Go.Am
