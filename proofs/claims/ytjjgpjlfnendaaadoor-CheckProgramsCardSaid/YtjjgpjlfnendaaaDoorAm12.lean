/- The abstract machine and what is proved in it, part 12. -/
import Derived.Test.YtjjgpjlfnendaaaDoorAm11
set_option linter.unusedVariables false
set_option linter.unusedSimpArgs false
namespace Go.Am
section
set_option maxHeartbeats 8000000 in
theorem of_k1 {base : Nat} {x : Nd} {lv : V} (h : Heap) (hl : LV lv x.l) (c1 : x.kind = 1) : WpF S0 base k_ast_of [.agg (ndC x lv)] h fun v h' => v = .tup [.agg (zD x lv), .bool (kindOk x.kind)] ∧ h' = h := by
  first | refine zu (A := f_ast_of) rfl rfl rfl rfl ?_ | refine zB (A := f_ast_of) rfl rfl rfl rfl ?_
  simp only [f_ast_of, ndC]
  refine zw (fun en' h' => en' 1 = .eptr (ndC x lv) 0 ∧ en' 2 = .ptr h.length 0 ∧ en' 3 = .bool false ∧ h' = h ++ [.box 71 Zs]) ?_ ?_
  · simp only [SQ, SQB, zm, AOp.opds, step, Opd.get, zk, bin, zc, IntKind.signed, zi, zj, zl, zb, unary, ze, zd, za, zo, zr, zh, zf, zg, zp, Cp.isFull, isNil, zq, simprocAttr, SQX, V.cells, hl.gr]
  rintro en1 h1 ⟨e1, e2, e3, rfl⟩
  refine zw (fun en' h' => en' 1 = en1 1 ∧ en' 2 = en1 2 ∧ en' 3 = en1 3 ∧ en' 4 = .ptr (h.length + 1) 0 ∧ h' = h ++ [.box 71 Zs, .box 71 Pl]) ?_ ?_
  · have hf : fillParts Zs [(4, 1, (.fn (.func zzs) [] [])), (5, 1, (.fn (.func zzs) [] [])), (6, 1, (.fn (.func zt) [] [.eptr [.sc (.int .i64 0)] 0]))] = some Pl := rfl
    have hs := stA (h := h) (A := .box 71 Zs) (t := 71) (cs := Zs) (r := []) (A' := .dead) (by simp) (ds := Pl) rfl rfl rfl
    simp only [SQ, SQB, zm, AOp.opds, step, Opd.get, zk, bin, zc, IntKind.signed, zi, zj, zl, zb, unary, ze, zd, za, zo, zr, zh, zf, zg, zp, Cp.isFull, isNil, zq, simprocAttr, SQX, V.cells, zn (exactly_r _ _), getParts, hf, List.length_append, List.append_assoc, hs]
  rintro en2 h2 ⟨f1, f2, f3, f4, rfl⟩
  refine zw (fun en' h' => en' 1 = en1 1 ∧ en' 2 = en1 2 ∧ en' 3 = en1 3 ∧ en' 5 = .ptr (h.length + 2) 0 ∧ h' = h ++ [.box 71 Zs, .box 71 Pl, .box 71 Pl]) ?_ ?_
  · have hg : (h ++ [Obj.box 71 Zs, Obj.box 71 Pl])[h.length + 1]? = some (.box 71 Pl) := by simp
    have hs := st3_2a (h := h) (A := .box 71 Zs) (B := .box 71 Pl) (t := 71) (cs := Zs) (ds := Pl) rfl rfl rfl
    simp only [SQ, SQB, zm, AOp.opds, step, Opd.get, zk, bin, zc, IntKind.signed, zi, zj, zl, zb, unary, ze, zd, za, zo, zr, zh, zf, zg, zp, Cp.isFull, isNil, zq, simprocAttr, SQX, V.cells, f1, f2, f3, f4, hg, zC, List.length_append, List.append_assoc, hs]
  rintro en3 h3 ⟨g1, g2, g3, g5, rfl⟩
  rw [e1] at g1
  rw [e2] at g2
  rw [e3] at g3
  have fl1 : zv 1 (List.replicate 2 [V.sc (.int .i64 (0))]) [(0, V.sc (.int .i64 (0))), (1, V.sc (.int .i64 (1)))] = some [[V.sc (.int .i64 (0))], [V.sc (.int .i64 (1))]] := rfl
  have fl2 : zv 1 (List.replicate 2 [V.sc (.int .i64 (0))]) [(0, V.sc (.int .i64 (0))), (1, V.sc (.int .i64 (2)))] = some [[V.sc (.int .i64 (0))], [V.sc (.int .i64 (2))]] := rfl
  have fl3 : zv 1 (List.replicate 4 [V.sc (.int .i64 (0))]) [(0, V.sc (.int .i64 (0))), (1, V.sc (.int .i64 (1))), (2, V.sc (.int .i64 (2))), (3, V.sc (.int .i64 (3)))] = some [[V.sc (.int .i64 (0))], [V.sc (.int .i64 (1))], [V.sc (.int .i64 (2))], [V.sc (.int .i64 (3))]] := rfl
  have fl4 : zv 1 (List.replicate 3 [V.sc (.int .i64 (0))]) [(0, V.sc (.int .i64 (1))), (1, V.sc (.int .i64 (2))), (2, V.sc (.int .i64 (3)))] = some [[V.sc (.int .i64 (1))], [V.sc (.int .i64 (2))], [V.sc (.int .i64 (3))]] := rfl
  simp only [SQ, SQB, zm, AOp.opds, step, Opd.get, zk, bin, zc, IntKind.signed, zi, zj, zl, zb, unary, ze, zd, za, zo, zr, zh, zf, zg, zp, Cp.isFull, isNil, zq, simprocAttr, SQX, V.cells, c1, g1, g2, g3, g5, zn (exactly_r _ _), zn (headed_r _ _ _), zn (one_r _ _ _), st3_2s, st3_2f, at3_2, zC, st3_0a, at3_0, Frz_fn0, Frz_fn1, Frz_fn2, zD, kindOk, shC, List.set, getParts, getParts2, fl1, fl2, fl3, fl4, List.map_cons, List.map_nil, Option.bind_some, List.length_cons, List.length_nil, List.take_left]
set_option maxHeartbeats 8000000 in
theorem of_k2 {base : Nat} {x : Nd} {lv : V} (h : Heap) (hl : LV lv x.l) (c2 : x.kind = 2) : WpF S0 base k_ast_of [.agg (ndC x lv)] h fun v h' => v = .tup [.agg (zD x lv), .bool (kindOk x.kind)] ∧ h' = h := by
  first | refine zu (A := f_ast_of) rfl rfl rfl rfl ?_ | refine zB (A := f_ast_of) rfl rfl rfl rfl ?_
  simp only [f_ast_of, ndC]
  refine zw (fun en' h' => en' 1 = .eptr (ndC x lv) 0 ∧ en' 2 = .ptr h.length 0 ∧ en' 3 = .bool false ∧ h' = h ++ [.box 71 Zs]) ?_ ?_
  · simp only [SQ, SQB, zm, AOp.opds, step, Opd.get, zk, bin, zc, IntKind.signed, zi, zj, zl, zb, unary, ze, zd, za, zo, zr, zh, zf, zg, zp, Cp.isFull, isNil, zq, simprocAttr, SQX, V.cells, hl.gr]
  rintro en1 h1 ⟨e1, e2, e3, rfl⟩
  refine zw (fun en' h' => en' 1 = en1 1 ∧ en' 2 = en1 2 ∧ en' 3 = en1 3 ∧ en' 4 = .ptr (h.length + 1) 0 ∧ h' = h ++ [.box 71 Zs, .box 71 Pl]) ?_ ?_
  · have hf : fillParts Zs [(4, 1, (.fn (.func zzs) [] [])), (5, 1, (.fn (.func zzs) [] [])), (6, 1, (.fn (.func zt) [] [.eptr [.sc (.int .i64 0)] 0]))] = some Pl := rfl
    have hs := stA (h := h) (A := .box 71 Zs) (t := 71) (cs := Zs) (r := []) (A' := .dead) (by simp) (ds := Pl) rfl rfl rfl
    simp only [SQ, SQB, zm, AOp.opds, step, Opd.get, zk, bin, zc, IntKind.signed, zi, zj, zl, zb, unary, ze, zd, za, zo, zr, zh, zf, zg, zp, Cp.isFull, isNil, zq, simprocAttr, SQX, V.cells, zn (exactly_r _ _), getParts, hf, List.length_append, List.append_assoc, hs]
  rintro en2 h2 ⟨f1, f2, f3, f4, rfl⟩
  refine zw (fun en' h' => en' 1 = en1 1 ∧ en' 2 = en1 2 ∧ en' 3 = en1 3 ∧ en' 5 = .ptr (h.length + 2) 0 ∧ h' = h ++ [.box 71 Zs, .box 71 Pl, .box 71 Pl]) ?_ ?_
  · have hg : (h ++ [Obj.box 71 Zs, Obj.box 71 Pl])[h.length + 1]? = some (.box 71 Pl) := by simp
    have hs := st3_2a (h := h) (A := .box 71 Zs) (B := .box 71 Pl) (t := 71) (cs := Zs) (ds := Pl) rfl rfl rfl
    simp only [SQ, SQB, zm, AOp.opds, step, Opd.get, zk, bin, zc, IntKind.signed, zi, zj, zl, zb, unary, ze, zd, za, zo, zr, zh, zf, zg, zp, Cp.isFull, isNil, zq, simprocAttr, SQX, V.cells, f1, f2, f3, f4, hg, zC, List.length_append, List.append_assoc, hs]
  rintro en3 h3 ⟨g1, g2, g3, g5, rfl⟩
  rw [e1] at g1
  rw [e2] at g2
  rw [e3] at g3
  have c1 : ¬ x.kind = 1 := by omega
  have fl1 : zv 1 (List.replicate 2 [V.sc (.int .i64 (0))]) [(0, V.sc (.int .i64 (0))), (1, V.sc (.int .i64 (1)))] = some [[V.sc (.int .i64 (0))], [V.sc (.int .i64 (1))]] := rfl
  have fl2 : zv 1 (List.replicate 2 [V.sc (.int .i64 (0))]) [(0, V.sc (.int .i64 (0))), (1, V.sc (.int .i64 (2)))] = some [[V.sc (.int .i64 (0))], [V.sc (.int .i64 (2))]] := rfl
  have fl3 : zv 1 (List.replicate 4 [V.sc (.int .i64 (0))]) [(0, V.sc (.int .i64 (0))), (1, V.sc (.int .i64 (1))), (2, V.sc (.int .i64 (2))), (3, V.sc (.int .i64 (3)))] = some [[V.sc (.int .i64 (0))], [V.sc (.int .i64 (1))], [V.sc (.int .i64 (2))], [V.sc (.int .i64 (3))]] := rfl
  have fl4 : zv 1 (List.replicate 3 [V.sc (.int .i64 (0))]) [(0, V.sc (.int .i64 (1))), (1, V.sc (.int .i64 (2))), (2, V.sc (.int .i64 (3)))] = some [[V.sc (.int .i64 (1))], [V.sc (.int .i64 (2))], [V.sc (.int .i64 (3))]] := rfl
  simp only [SQ, SQB, zm, AOp.opds, step, Opd.get, zk, bin, zc, IntKind.signed, zi, zj, zl, zb, unary, ze, zd, za, zo, zr, zh, zf, zg, zp, Cp.isFull, isNil, zq, simprocAttr, SQX, V.cells, c1, c2, g1, g2, g3, g5, zn (exactly_r _ _), zn (headed_r _ _ _), zn (one_r _ _ _), st3_2s, st3_2f, at3_2, zC, st3_0a, at3_0, Frz_fn0, Frz_fn1, Frz_fn2, zD, kindOk, shC, List.set, getParts, getParts2, fl1, fl2, fl3, fl4, List.map_cons, List.map_nil, Option.bind_some, List.length_cons, List.length_nil, List.take_left]
set_option maxHeartbeats 8000000 in
theorem of_k3 {base : Nat} {x : Nd} {lv : V} (h : Heap) (hl : LV lv x.l) (c3 : x.kind = 3) : WpF S0 base k_ast_of [.agg (ndC x lv)] h fun v h' => v = .tup [.agg (zD x lv), .bool (kindOk x.kind)] ∧ h' = h := by
  first | refine zu (A := f_ast_of) rfl rfl rfl rfl ?_ | refine zB (A := f_ast_of) rfl rfl rfl rfl ?_
  simp only [f_ast_of, ndC]
  refine zw (fun en' h' => en' 1 = .eptr (ndC x lv) 0 ∧ en' 2 = .ptr h.length 0 ∧ en' 3 = .bool false ∧ h' = h ++ [.box 71 Zs]) ?_ ?_
  · simp only [SQ, SQB, zm, AOp.opds, step, Opd.get, zk, bin, zc, IntKind.signed, zi, zj, zl, zb, unary, ze, zd, za, zo, zr, zh, zf, zg, zp, Cp.isFull, isNil, zq, simprocAttr, SQX, V.cells, hl.gr]
  rintro en1 h1 ⟨e1, e2, e3, rfl⟩
  refine zw (fun en' h' => en' 1 = en1 1 ∧ en' 2 = en1 2 ∧ en' 3 = en1 3 ∧ en' 4 = .ptr (h.length + 1) 0 ∧ h' = h ++ [.box 71 Zs, .box 71 Pl]) ?_ ?_
  · have hf : fillParts Zs [(4, 1, (.fn (.func zzs) [] [])), (5, 1, (.fn (.func zzs) [] [])), (6, 1, (.fn (.func zt) [] [.eptr [.sc (.int .i64 0)] 0]))] = some Pl := rfl
    have hs := stA (h := h) (A := .box 71 Zs) (t := 71) (cs := Zs) (r := []) (A' := .dead) (by simp) (ds := Pl) rfl rfl rfl
    simp only [SQ, SQB, zm, AOp.opds, step, Opd.get, zk, bin, zc, IntKind.signed, zi, zj, zl, zb, unary, ze, zd, za, zo, zr, zh, zf, zg, zp, Cp.isFull, isNil, zq, simprocAttr, SQX, V.cells, zn (exactly_r _ _), getParts, hf, List.length_append, List.append_assoc, hs]
  rintro en2 h2 ⟨f1, f2, f3, f4, rfl⟩
  refine zw (fun en' h' => en' 1 = en1 1 ∧ en' 2 = en1 2 ∧ en' 3 = en1 3 ∧ en' 5 = .ptr (h.length + 2) 0 ∧ h' = h ++ [.box 71 Zs, .box 71 Pl, .box 71 Pl]) ?_ ?_
  · have hg : (h ++ [Obj.box 71 Zs, Obj.box 71 Pl])[h.length + 1]? = some (.box 71 Pl) := by simp
    have hs := st3_2a (h := h) (A := .box 71 Zs) (B := .box 71 Pl) (t := 71) (cs := Zs) (ds := Pl) rfl rfl rfl
    simp only [SQ, SQB, zm, AOp.opds, step, Opd.get, zk, bin, zc, IntKind.signed, zi, zj, zl, zb, unary, ze, zd, za, zo, zr, zh, zf, zg, zp, Cp.isFull, isNil, zq, simprocAttr, SQX, V.cells, f1, f2, f3, f4, hg, zC, List.length_append, List.append_assoc, hs]
  rintro en3 h3 ⟨g1, g2, g3, g5, rfl⟩
  rw [e1] at g1
  rw [e2] at g2
  rw [e3] at g3
  have c1 : ¬ x.kind = 1 := by omega
  have c2 : ¬ x.kind = 2 := by omega
  have fl1 : zv 1 (List.replicate 2 [V.sc (.int .i64 (0))]) [(0, V.sc (.int .i64 (0))), (1, V.sc (.int .i64 (1)))] = some [[V.sc (.int .i64 (0))], [V.sc (.int .i64 (1))]] := rfl
  have fl2 : zv 1 (List.replicate 2 [V.sc (.int .i64 (0))]) [(0, V.sc (.int .i64 (0))), (1, V.sc (.int .i64 (2)))] = some [[V.sc (.int .i64 (0))], [V.sc (.int .i64 (2))]] := rfl
  have fl3 : zv 1 (List.replicate 4 [V.sc (.int .i64 (0))]) [(0, V.sc (.int .i64 (0))), (1, V.sc (.int .i64 (1))), (2, V.sc (.int .i64 (2))), (3, V.sc (.int .i64 (3)))] = some [[V.sc (.int .i64 (0))], [V.sc (.int .i64 (1))], [V.sc (.int .i64 (2))], [V.sc (.int .i64 (3))]] := rfl
  have fl4 : zv 1 (List.replicate 3 [V.sc (.int .i64 (0))]) [(0, V.sc (.int .i64 (1))), (1, V.sc (.int .i64 (2))), (2, V.sc (.int .i64 (3)))] = some [[V.sc (.int .i64 (1))], [V.sc (.int .i64 (2))], [V.sc (.int .i64 (3))]] := rfl
  simp only [SQ, SQB, zm, AOp.opds, step, Opd.get, zk, bin, zc, IntKind.signed, zi, zj, zl, zb, unary, ze, zd, za, zo, zr, zh, zf, zg, zp, Cp.isFull, isNil, zq, simprocAttr, SQX, V.cells, c1, c2, c3, g1, g2, g3, g5, zn (exactly_r _ _), zn (headed_r _ _ _), zn (one_r _ _ _), st3_2s, st3_2f, at3_2, zC, st3_0a, at3_0, Frz_fn0, Frz_fn1, Frz_fn2, zD, kindOk, shC, List.set, getParts, getParts2, fl1, fl2, fl3, fl4, List.map_cons, List.map_nil, Option.bind_some, List.length_cons, List.length_nil, List.take_left]
set_option maxHeartbeats 8000000 in
theorem of_k4 {base : Nat} {x : Nd} {lv : V} (h : Heap) (hl : LV lv x.l) (c4 : x.kind = 4) : WpF S0 base k_ast_of [.agg (ndC x lv)] h fun v h' => v = .tup [.agg (zD x lv), .bool (kindOk x.kind)] ∧ h' = h := by
  first | refine zu (A := f_ast_of) rfl rfl rfl rfl ?_ | refine zB (A := f_ast_of) rfl rfl rfl rfl ?_
  simp only [f_ast_of, ndC]
  refine zw (fun en' h' => en' 1 = .eptr (ndC x lv) 0 ∧ en' 2 = .ptr h.length 0 ∧ en' 3 = .bool false ∧ h' = h ++ [.box 71 Zs]) ?_ ?_
  · simp only [SQ, SQB, zm, AOp.opds, step, Opd.get, zk, bin, zc, IntKind.signed, zi, zj, zl, zb, unary, ze, zd, za, zo, zr, zh, zf, zg, zp, Cp.isFull, isNil, zq, simprocAttr, SQX, V.cells, hl.gr]
  rintro en1 h1 ⟨e1, e2, e3, rfl⟩
  refine zw (fun en' h' => en' 1 = en1 1 ∧ en' 2 = en1 2 ∧ en' 3 = en1 3 ∧ en' 4 = .ptr (h.length + 1) 0 ∧ h' = h ++ [.box 71 Zs, .box 71 Pl]) ?_ ?_
  · have hf : fillParts Zs [(4, 1, (.fn (.func zzs) [] [])), (5, 1, (.fn (.func zzs) [] [])), (6, 1, (.fn (.func zt) [] [.eptr [.sc (.int .i64 0)] 0]))] = some Pl := rfl
    have hs := stA (h := h) (A := .box 71 Zs) (t := 71) (cs := Zs) (r := []) (A' := .dead) (by simp) (ds := Pl) rfl rfl rfl
    simp only [SQ, SQB, zm, AOp.opds, step, Opd.get, zk, bin, zc, IntKind.signed, zi, zj, zl, zb, unary, ze, zd, za, zo, zr, zh, zf, zg, zp, Cp.isFull, isNil, zq, simprocAttr, SQX, V.cells, zn (exactly_r _ _), getParts, hf, List.length_append, List.append_assoc, hs]
  rintro en2 h2 ⟨f1, f2, f3, f4, rfl⟩
  refine zw (fun en' h' => en' 1 = en1 1 ∧ en' 2 = en1 2 ∧ en' 3 = en1 3 ∧ en' 5 = .ptr (h.length + 2) 0 ∧ h' = h ++ [.box 71 Zs, .box 71 Pl, .box 71 Pl]) ?_ ?_
  · have hg : (h ++ [Obj.box 71 Zs, Obj.box 71 Pl])[h.length + 1]? = some (.box 71 Pl) := by simp
    have hs := st3_2a (h := h) (A := .box 71 Zs) (B := .box 71 Pl) (t := 71) (cs := Zs) (ds := Pl) rfl rfl rfl
    simp only [SQ, SQB, zm, AOp.opds, step, Opd.get, zk, bin, zc, IntKind.signed, zi, zj, zl, zb, unary, ze, zd, za, zo, zr, zh, zf, zg, zp, Cp.isFull, isNil, zq, simprocAttr, SQX, V.cells, f1, f2, f3, f4, hg, zC, List.length_append, List.append_assoc, hs]
  rintro en3 h3 ⟨g1, g2, g3, g5, rfl⟩
  rw [e1] at g1
  rw [e2] at g2
  rw [e3] at g3
  have c1 : ¬ x.kind = 1 := by omega
  have c2 : ¬ x.kind = 2 := by omega
  have c3 : ¬ x.kind = 3 := by omega
  have fl1 : zv 1 (List.replicate 2 [V.sc (.int .i64 (0))]) [(0, V.sc (.int .i64 (0))), (1, V.sc (.int .i64 (1)))] = some [[V.sc (.int .i64 (0))], [V.sc (.int .i64 (1))]] := rfl
  have fl2 : zv 1 (List.replicate 2 [V.sc (.int .i64 (0))]) [(0, V.sc (.int .i64 (0))), (1, V.sc (.int .i64 (2)))] = some [[V.sc (.int .i64 (0))], [V.sc (.int .i64 (2))]] := rfl
  have fl3 : zv 1 (List.replicate 4 [V.sc (.int .i64 (0))]) [(0, V.sc (.int .i64 (0))), (1, V.sc (.int .i64 (1))), (2, V.sc (.int .i64 (2))), (3, V.sc (.int .i64 (3)))] = some [[V.sc (.int .i64 (0))], [V.sc (.int .i64 (1))], [V.sc (.int .i64 (2))], [V.sc (.int .i64 (3))]] := rfl
  have fl4 : zv 1 (List.replicate 3 [V.sc (.int .i64 (0))]) [(0, V.sc (.int .i64 (1))), (1, V.sc (.int .i64 (2))), (2, V.sc (.int .i64 (3)))] = some [[V.sc (.int .i64 (1))], [V.sc (.int .i64 (2))], [V.sc (.int .i64 (3))]] := rfl
  simp only [SQ, SQB, zm, AOp.opds, step, Opd.get, zk, bin, zc, IntKind.signed, zi, zj, zl, zb, unary, ze, zd, za, zo, zr, zh, zf, zg, zp, Cp.isFull, isNil, zq, simprocAttr, SQX, V.cells, c1, c2, c3, c4, g1, g2, g3, g5, zn (exactly_r _ _), zn (headed_r _ _ _), zn (one_r _ _ _), st3_2s, st3_2f, at3_2, zC, st3_0a, at3_0, Frz_fn0, Frz_fn1, Frz_fn2, zD, kindOk, shC, List.set, getParts, getParts2, fl1, fl2, fl3, fl4, List.map_cons, List.map_nil, Option.bind_some, List.length_cons, List.length_nil, List.take_left]
set_option maxHeartbeats 8000000 in
theorem of_k5 {base : Nat} {x : Nd} {lv : V} (h : Heap) (hl : LV lv x.l) (c5 : x.kind = 5) : WpF S0 base k_ast_of [.agg (ndC x lv)] h fun v h' => v = .tup [.agg (zD x lv), .bool (kindOk x.kind)] ∧ h' = h := by
  first | refine zu (A := f_ast_of) rfl rfl rfl rfl ?_ | refine zB (A := f_ast_of) rfl rfl rfl rfl ?_
  simp only [f_ast_of, ndC]
  refine zw (fun en' h' => en' 1 = .eptr (ndC x lv) 0 ∧ en' 2 = .ptr h.length 0 ∧ en' 3 = .bool false ∧ h' = h ++ [.box 71 Zs]) ?_ ?_
  · simp only [SQ, SQB, zm, AOp.opds, step, Opd.get, zk, bin, zc, IntKind.signed, zi, zj, zl, zb, unary, ze, zd, za, zo, zr, zh, zf, zg, zp, Cp.isFull, isNil, zq, simprocAttr, SQX, V.cells, hl.gr]
  rintro en1 h1 ⟨e1, e2, e3, rfl⟩
  refine zw (fun en' h' => en' 1 = en1 1 ∧ en' 2 = en1 2 ∧ en' 3 = en1 3 ∧ en' 4 = .ptr (h.length + 1) 0 ∧ h' = h ++ [.box 71 Zs, .box 71 Pl]) ?_ ?_
  · have hf : fillParts Zs [(4, 1, (.fn (.func zzs) [] [])), (5, 1, (.fn (.func zzs) [] [])), (6, 1, (.fn (.func zt) [] [.eptr [.sc (.int .i64 0)] 0]))] = some Pl := rfl
    have hs := stA (h := h) (A := .box 71 Zs) (t := 71) (cs := Zs) (r := []) (A' := .dead) (by simp) (ds := Pl) rfl rfl rfl
    simp only [SQ, SQB, zm, AOp.opds, step, Opd.get, zk, bin, zc, IntKind.signed, zi, zj, zl, zb, unary, ze, zd, za, zo, zr, zh, zf, zg, zp, Cp.isFull, isNil, zq, simprocAttr, SQX, V.cells, zn (exactly_r _ _), getParts, hf, List.length_append, List.append_assoc, hs]
  rintro en2 h2 ⟨f1, f2, f3, f4, rfl⟩
  refine zw (fun en' h' => en' 1 = en1 1 ∧ en' 2 = en1 2 ∧ en' 3 = en1 3 ∧ en' 5 = .ptr (h.length + 2) 0 ∧ h' = h ++ [.box 71 Zs, .box 71 Pl, .box 71 Pl]) ?_ ?_
  · have hg : (h ++ [Obj.box 71 Zs, Obj.box 71 Pl])[h.length + 1]? = some (.box 71 Pl) := by simp
    have hs := st3_2a (h := h) (A := .box 71 Zs) (B := .box 71 Pl) (t := 71) (cs := Zs) (ds := Pl) rfl rfl rfl
    simp only [SQ, SQB, zm, AOp.opds, step, Opd.get, zk, bin, zc, IntKind.signed, zi, zj, zl, zb, unary, ze, zd, za, zo, zr, zh, zf, zg, zp, Cp.isFull, isNil, zq, simprocAttr, SQX, V.cells, f1, f2, f3, f4, hg, zC, List.length_append, List.append_assoc, hs]
  rintro en3 h3 ⟨g1, g2, g3, g5, rfl⟩
  rw [e1] at g1
  rw [e2] at g2
  rw [e3] at g3
  have c1 : ¬ x.kind = 1 := by omega
  have c2 : ¬ x.kind = 2 := by omega
  have c3 : ¬ x.kind = 3 := by omega
  have c4 : ¬ x.kind = 4 := by omega
  have fl1 : zv 1 (List.replicate 2 [V.sc (.int .i64 (0))]) [(0, V.sc (.int .i64 (0))), (1, V.sc (.int .i64 (1)))] = some [[V.sc (.int .i64 (0))], [V.sc (.int .i64 (1))]] := rfl
  have fl2 : zv 1 (List.replicate 2 [V.sc (.int .i64 (0))]) [(0, V.sc (.int .i64 (0))), (1, V.sc (.int .i64 (2)))] = some [[V.sc (.int .i64 (0))], [V.sc (.int .i64 (2))]] := rfl
  have fl3 : zv 1 (List.replicate 4 [V.sc (.int .i64 (0))]) [(0, V.sc (.int .i64 (0))), (1, V.sc (.int .i64 (1))), (2, V.sc (.int .i64 (2))), (3, V.sc (.int .i64 (3)))] = some [[V.sc (.int .i64 (0))], [V.sc (.int .i64 (1))], [V.sc (.int .i64 (2))], [V.sc (.int .i64 (3))]] := rfl
  have fl4 : zv 1 (List.replicate 3 [V.sc (.int .i64 (0))]) [(0, V.sc (.int .i64 (1))), (1, V.sc (.int .i64 (2))), (2, V.sc (.int .i64 (3)))] = some [[V.sc (.int .i64 (1))], [V.sc (.int .i64 (2))], [V.sc (.int .i64 (3))]] := rfl
  simp only [SQ, SQB, zm, AOp.opds, step, Opd.get, zk, bin, zc, IntKind.signed, zi, zj, zl, zb, unary, ze, zd, za, zo, zr, zh, zf, zg, zp, Cp.isFull, isNil, zq, simprocAttr, SQX, V.cells, c1, c2, c3, c4, c5, g1, g2, g3, g5, zn (exactly_r _ _), zn (headed_r _ _ _), zn (one_r _ _ _), st3_2s, st3_2f, at3_2, zC, st3_0a, at3_0, Frz_fn0, Frz_fn1, Frz_fn2, zD, kindOk, shC, List.set, getParts, getParts2, fl1, fl2, fl3, fl4, List.map_cons, List.map_nil, Option.bind_some, List.length_cons, List.length_nil, List.take_left]
set_option maxHeartbeats 8000000 in
theorem of_k21 {base : Nat} {x : Nd} {lv : V} (h : Heap) (hl : LV lv x.l) (c21 : x.kind = 21) : WpF S0 base k_ast_of [.agg (ndC x lv)] h fun v h' => v = .tup [.agg (zD x lv), .bool (kindOk x.kind)] ∧ h' = h := by
  first | refine zu (A := f_ast_of) rfl rfl rfl rfl ?_ | refine zB (A := f_ast_of) rfl rfl rfl rfl ?_
  simp only [f_ast_of, ndC]
  refine zw (fun en' h' => en' 1 = .eptr (ndC x lv) 0 ∧ en' 2 = .ptr h.length 0 ∧ en' 3 = .bool false ∧ h' = h ++ [.box 71 Zs]) ?_ ?_
  · simp only [SQ, SQB, zm, AOp.opds, step, Opd.get, zk, bin, zc, IntKind.signed, zi, zj, zl, zb, unary, ze, zd, za, zo, zr, zh, zf, zg, zp, Cp.isFull, isNil, zq, simprocAttr, SQX, V.cells, hl.gr]
  rintro en1 h1 ⟨e1, e2, e3, rfl⟩
  refine zw (fun en' h' => en' 1 = en1 1 ∧ en' 2 = en1 2 ∧ en' 3 = en1 3 ∧ en' 4 = .ptr (h.length + 1) 0 ∧ h' = h ++ [.box 71 Zs, .box 71 Pl]) ?_ ?_
  · have hf : fillParts Zs [(4, 1, (.fn (.func zzs) [] [])), (5, 1, (.fn (.func zzs) [] [])), (6, 1, (.fn (.func zt) [] [.eptr [.sc (.int .i64 0)] 0]))] = some Pl := rfl
    have hs := stA (h := h) (A := .box 71 Zs) (t := 71) (cs := Zs) (r := []) (A' := .dead) (by simp) (ds := Pl) rfl rfl rfl
    simp only [SQ, SQB, zm, AOp.opds, step, Opd.get, zk, bin, zc, IntKind.signed, zi, zj, zl, zb, unary, ze, zd, za, zo, zr, zh, zf, zg, zp, Cp.isFull, isNil, zq, simprocAttr, SQX, V.cells, zn (exactly_r _ _), getParts, hf, List.length_append, List.append_assoc, hs]
  rintro en2 h2 ⟨f1, f2, f3, f4, rfl⟩
  refine zw (fun en' h' => en' 1 = en1 1 ∧ en' 2 = en1 2 ∧ en' 3 = en1 3 ∧ en' 5 = .ptr (h.length + 2) 0 ∧ h' = h ++ [.box 71 Zs, .box 71 Pl, .box 71 Pl]) ?_ ?_
  · have hg : (h ++ [Obj.box 71 Zs, Obj.box 71 Pl])[h.length + 1]? = some (.box 71 Pl) := by simp
    have hs := st3_2a (h := h) (A := .box 71 Zs) (B := .box 71 Pl) (t := 71) (cs := Zs) (ds := Pl) rfl rfl rfl
    simp only [SQ, SQB, zm, AOp.opds, step, Opd.get, zk, bin, zc, IntKind.signed, zi, zj, zl, zb, unary, ze, zd, za, zo, zr, zh, zf, zg, zp, Cp.isFull, isNil, zq, simprocAttr, SQX, V.cells, f1, f2, f3, f4, hg, zC, List.length_append, List.append_assoc, hs]
  rintro en3 h3 ⟨g1, g2, g3, g5, rfl⟩
  rw [e1] at g1
  rw [e2] at g2
  rw [e3] at g3
  have c1 : ¬ x.kind = 1 := by omega
  have c2 : ¬ x.kind = 2 := by omega
  have c3 : ¬ x.kind = 3 := by omega
  have c4 : ¬ x.kind = 4 := by omega
  have c5 : ¬ x.kind = 5 := by omega
  have fl1 : zv 1 (List.replicate 2 [V.sc (.int .i64 (0))]) [(0, V.sc (.int .i64 (0))), (1, V.sc (.int .i64 (1)))] = some [[V.sc (.int .i64 (0))], [V.sc (.int .i64 (1))]] := rfl
  have fl2 : zv 1 (List.replicate 2 [V.sc (.int .i64 (0))]) [(0, V.sc (.int .i64 (0))), (1, V.sc (.int .i64 (2)))] = some [[V.sc (.int .i64 (0))], [V.sc (.int .i64 (2))]] := rfl
  have fl3 : zv 1 (List.replicate 4 [V.sc (.int .i64 (0))]) [(0, V.sc (.int .i64 (0))), (1, V.sc (.int .i64 (1))), (2, V.sc (.int .i64 (2))), (3, V.sc (.int .i64 (3)))] = some [[V.sc (.int .i64 (0))], [V.sc (.int .i64 (1))], [V.sc (.int .i64 (2))], [V.sc (.int .i64 (3))]] := rfl
  have fl4 : zv 1 (List.replicate 3 [V.sc (.int .i64 (0))]) [(0, V.sc (.int .i64 (1))), (1, V.sc (.int .i64 (2))), (2, V.sc (.int .i64 (3)))] = some [[V.sc (.int .i64 (1))], [V.sc (.int .i64 (2))], [V.sc (.int .i64 (3))]] := rfl
  simp only [SQ, SQB, zm, AOp.opds, step, Opd.get, zk, bin, zc, IntKind.signed, zi, zj, zl, zb, unary, ze, zd, za, zo, zr, zh, zf, zg, zp, Cp.isFull, isNil, zq, simprocAttr, SQX, V.cells, c1, c2, c3, c4, c5, c21, g1, g2, g3, g5, zn (exactly_r _ _), zn (headed_r _ _ _), zn (one_r _ _ _), st3_2s, st3_2f, at3_2, zC, st3_0a, at3_0, Frz_fn0, Frz_fn1, Frz_fn2, zD, kindOk, shC, List.set, getParts, getParts2, fl1, fl2, fl3, fl4, List.map_cons, List.map_nil, Option.bind_some, List.length_cons, List.length_nil, List.take_left]
set_option maxHeartbeats 8000000 in
theorem of_k6 {base : Nat} {x : Nd} {lv : V} (h : Heap) (hl : LV lv x.l) (c6 : x.kind = 6) : WpF S0 base k_ast_of [.agg (ndC x lv)] h fun v h' => v = .tup [.agg (zD x lv), .bool (kindOk x.kind)] ∧ h' = h := by
  first | refine zu (A := f_ast_of) rfl rfl rfl rfl ?_ | refine zB (A := f_ast_of) rfl rfl rfl rfl ?_
  simp only [f_ast_of, ndC]
  refine zw (fun en' h' => en' 1 = .eptr (ndC x lv) 0 ∧ en' 2 = .ptr h.length 0 ∧ en' 3 = .bool false ∧ h' = h ++ [.box 71 Zs]) ?_ ?_
  · simp only [SQ, SQB, zm, AOp.opds, step, Opd.get, zk, bin, zc, IntKind.signed, zi, zj, zl, zb, unary, ze, zd, za, zo, zr, zh, zf, zg, zp, Cp.isFull, isNil, zq, simprocAttr, SQX, V.cells, hl.gr]
  rintro en1 h1 ⟨e1, e2, e3, rfl⟩
  refine zw (fun en' h' => en' 1 = en1 1 ∧ en' 2 = en1 2 ∧ en' 3 = en1 3 ∧ en' 4 = .ptr (h.length + 1) 0 ∧ h' = h ++ [.box 71 Zs, .box 71 Pl]) ?_ ?_
  · have hf : fillParts Zs [(4, 1, (.fn (.func zzs) [] [])), (5, 1, (.fn (.func zzs) [] [])), (6, 1, (.fn (.func zt) [] [.eptr [.sc (.int .i64 0)] 0]))] = some Pl := rfl
    have hs := stA (h := h) (A := .box 71 Zs) (t := 71) (cs := Zs) (r := []) (A' := .dead) (by simp) (ds := Pl) rfl rfl rfl
    simp only [SQ, SQB, zm, AOp.opds, step, Opd.get, zk, bin, zc, IntKind.signed, zi, zj, zl, zb, unary, ze, zd, za, zo, zr, zh, zf, zg, zp, Cp.isFull, isNil, zq, simprocAttr, SQX, V.cells, zn (exactly_r _ _), getParts, hf, List.length_append, List.append_assoc, hs]
  rintro en2 h2 ⟨f1, f2, f3, f4, rfl⟩
  refine zw (fun en' h' => en' 1 = en1 1 ∧ en' 2 = en1 2 ∧ en' 3 = en1 3 ∧ en' 5 = .ptr (h.length + 2) 0 ∧ h' = h ++ [.box 71 Zs, .box 71 Pl, .box 71 Pl]) ?_ ?_
  · have hg : (h ++ [Obj.box 71 Zs, Obj.box 71 Pl])[h.length + 1]? = some (.box 71 Pl) := by simp
    have hs := st3_2a (h := h) (A := .box 71 Zs) (B := .box 71 Pl) (t := 71) (cs := Zs) (ds := Pl) rfl rfl rfl
    simp only [SQ, SQB, zm, AOp.opds, step, Opd.get, zk, bin, zc, IntKind.signed, zi, zj, zl, zb, unary, ze, zd, za, zo, zr, zh, zf, zg, zp, Cp.isFull, isNil, zq, simprocAttr, SQX, V.cells, f1, f2, f3, f4, hg, zC, List.length_append, List.append_assoc, hs]
  rintro en3 h3 ⟨g1, g2, g3, g5, rfl⟩
  rw [e1] at g1
  rw [e2] at g2
  rw [e3] at g3
  have c1 : ¬ x.kind = 1 := by omega
  have c2 : ¬ x.kind = 2 := by omega
  have c3 : ¬ x.kind = 3 := by omega
  have c4 : ¬ x.kind = 4 := by omega
  have c5 : ¬ x.kind = 5 := by omega
  have c21 : ¬ x.kind = 21 := by omega
  have fl1 : zv 1 (List.replicate 2 [V.sc (.int .i64 (0))]) [(0, V.sc (.int .i64 (0))), (1, V.sc (.int .i64 (1)))] = some [[V.sc (.int .i64 (0))], [V.sc (.int .i64 (1))]] := rfl
  have fl2 : zv 1 (List.replicate 2 [V.sc (.int .i64 (0))]) [(0, V.sc (.int .i64 (0))), (1, V.sc (.int .i64 (2)))] = some [[V.sc (.int .i64 (0))], [V.sc (.int .i64 (2))]] := rfl
  have fl3 : zv 1 (List.replicate 4 [V.sc (.int .i64 (0))]) [(0, V.sc (.int .i64 (0))), (1, V.sc (.int .i64 (1))), (2, V.sc (.int .i64 (2))), (3, V.sc (.int .i64 (3)))] = some [[V.sc (.int .i64 (0))], [V.sc (.int .i64 (1))], [V.sc (.int .i64 (2))], [V.sc (.int .i64 (3))]] := rfl
  have fl4 : zv 1 (List.replicate 3 [V.sc (.int .i64 (0))]) [(0, V.sc (.int .i64 (1))), (1, V.sc (.int .i64 (2))), (2, V.sc (.int .i64 (3)))] = some [[V.sc (.int .i64 (1))], [V.sc (.int .i64 (2))], [V.sc (.int .i64 (3))]] := rfl
  simp only [SQ, SQB, zm, AOp.opds, step, Opd.get, zk, bin, zc, IntKind.signed, zi, zj, zl, zb, unary, ze, zd, za, zo, zr, zh, zf, zg, zp, Cp.isFull, isNil, zq, simprocAttr, SQX, V.cells, c1, c2, c3, c4, c5, c21, c6, g1, g2, g3, g5, zn (exactly_r _ _), zn (headed_r _ _ _), zn (one_r _ _ _), st3_2s, st3_2f, at3_2, zC, st3_0a, at3_0, Frz_fn0, Frz_fn1, Frz_fn2, zD, kindOk, shC, List.set, getParts, getParts2, fl1, fl2, fl3, fl4, List.map_cons, List.map_nil, Option.bind_some, List.length_cons, List.length_nil, List.take_left]
set_option maxHeartbeats 8000000 in
theorem of_k7 {base : Nat} {x : Nd} {lv : V} (h : Heap) (hl : LV lv x.l) (c7 : x.kind = 7) : WpF S0 base k_ast_of [.agg (ndC x lv)] h fun v h' => v = .tup [.agg (zD x lv), .bool (kindOk x.kind)] ∧ h' = h := by
  first | refine zu (A := f_ast_of) rfl rfl rfl rfl ?_ | refine zB (A := f_ast_of) rfl rfl rfl rfl ?_
  simp only [f_ast_of, ndC]
  refine zw (fun en' h' => en' 1 = .eptr (ndC x lv) 0 ∧ en' 2 = .ptr h.length 0 ∧ en' 3 = .bool false ∧ h' = h ++ [.box 71 Zs]) ?_ ?_
  · simp only [SQ, SQB, zm, AOp.opds, step, Opd.get, zk, bin, zc, IntKind.signed, zi, zj, zl, zb, unary, ze, zd, za, zo, zr, zh, zf, zg, zp, Cp.isFull, isNil, zq, simprocAttr, SQX, V.cells, hl.gr]
  rintro en1 h1 ⟨e1, e2, e3, rfl⟩
  refine zw (fun en' h' => en' 1 = en1 1 ∧ en' 2 = en1 2 ∧ en' 3 = en1 3 ∧ en' 4 = .ptr (h.length + 1) 0 ∧ h' = h ++ [.box 71 Zs, .box 71 Pl]) ?_ ?_
  · have hf : fillParts Zs [(4, 1, (.fn (.func zzs) [] [])), (5, 1, (.fn (.func zzs) [] [])), (6, 1, (.fn (.func zt) [] [.eptr [.sc (.int .i64 0)] 0]))] = some Pl := rfl
    have hs := stA (h := h) (A := .box 71 Zs) (t := 71) (cs := Zs) (r := []) (A' := .dead) (by simp) (ds := Pl) rfl rfl rfl
    simp only [SQ, SQB, zm, AOp.opds, step, Opd.get, zk, bin, zc, IntKind.signed, zi, zj, zl, zb, unary, ze, zd, za, zo, zr, zh, zf, zg, zp, Cp.isFull, isNil, zq, simprocAttr, SQX, V.cells, zn (exactly_r _ _), getParts, hf, List.length_append, List.append_assoc, hs]
  rintro en2 h2 ⟨f1, f2, f3, f4, rfl⟩
  refine zw (fun en' h' => en' 1 = en1 1 ∧ en' 2 = en1 2 ∧ en' 3 = en1 3 ∧ en' 5 = .ptr (h.length + 2) 0 ∧ h' = h ++ [.box 71 Zs, .box 71 Pl, .box 71 Pl]) ?_ ?_
  · have hg : (h ++ [Obj.box 71 Zs, Obj.box 71 Pl])[h.length + 1]? = some (.box 71 Pl) := by simp
    have hs := st3_2a (h := h) (A := .box 71 Zs) (B := .box 71 Pl) (t := 71) (cs := Zs) (ds := Pl) rfl rfl rfl
    simp only [SQ, SQB, zm, AOp.opds, step, Opd.get, zk, bin, zc, IntKind.signed, zi, zj, zl, zb, unary, ze, zd, za, zo, zr, zh, zf, zg, zp, Cp.isFull, isNil, zq, simprocAttr, SQX, V.cells, f1, f2, f3, f4, hg, zC, List.length_append, List.append_assoc, hs]
  rintro en3 h3 ⟨g1, g2, g3, g5, rfl⟩
  rw [e1] at g1
  rw [e2] at g2
  rw [e3] at g3
  have c1 : ¬ x.kind = 1 := by omega
  have c2 : ¬ x.kind = 2 := by omega
  have c3 : ¬ x.kind = 3 := by omega
  have c4 : ¬ x.kind = 4 := by omega
  have c5 : ¬ x.kind = 5 := by omega
  have c21 : ¬ x.kind = 21 := by omega
  have c6 : ¬ x.kind = 6 := by omega
  have fl1 : zv 1 (List.replicate 2 [V.sc (.int .i64 (0))]) [(0, V.sc (.int .i64 (0))), (1, V.sc (.int .i64 (1)))] = some [[V.sc (.int .i64 (0))], [V.sc (.int .i64 (1))]] := rfl
  have fl2 : zv 1 (List.replicate 2 [V.sc (.int .i64 (0))]) [(0, V.sc (.int .i64 (0))), (1, V.sc (.int .i64 (2)))] = some [[V.sc (.int .i64 (0))], [V.sc (.int .i64 (2))]] := rfl
  have fl3 : zv 1 (List.replicate 4 [V.sc (.int .i64 (0))]) [(0, V.sc (.int .i64 (0))), (1, V.sc (.int .i64 (1))), (2, V.sc (.int .i64 (2))), (3, V.sc (.int .i64 (3)))] = some [[V.sc (.int .i64 (0))], [V.sc (.int .i64 (1))], [V.sc (.int .i64 (2))], [V.sc (.int .i64 (3))]] := rfl
  have fl4 : zv 1 (List.replicate 3 [V.sc (.int .i64 (0))]) [(0, V.sc (.int .i64 (1))), (1, V.sc (.int .i64 (2))), (2, V.sc (.int .i64 (3)))] = some [[V.sc (.int .i64 (1))], [V.sc (.int .i64 (2))], [V.sc (.int .i64 (3))]] := rfl
  simp only [SQ, SQB, zm, AOp.opds, step, Opd.get, zk, bin, zc, IntKind.signed, zi, zj, zl, zb, unary, ze, zd, za, zo, zr, zh, zf, zg, zp, Cp.isFull, isNil, zq, simprocAttr, SQX, V.cells, c1, c2, c3, c4, c5, c21, c6, c7, g1, g2, g3, g5, zn (exactly_r _ _), zn (headed_r _ _ _), zn (one_r _ _ _), st3_2s, st3_2f, at3_2, zC, st3_0a, at3_0, Frz_fn0, Frz_fn1, Frz_fn2, zD, kindOk, shC, List.set, getParts, getParts2, fl1, fl2, fl3, fl4, List.map_cons, List.map_nil, Option.bind_some, List.length_cons, List.length_nil, List.take_left]
set_option maxHeartbeats 8000000 in
theorem of_no {base : Nat} {x : Nd} {lv : V} (h : Heap) (hl : LV lv x.l) (hno : ¬ (1 ≤ x.kind ∧ x.kind ≤ 24)) : WpF S0 base k_ast_of [.agg (ndC x lv)] h fun v h' => v = .tup [.agg (zD x lv), .bool (kindOk x.kind)] ∧ h' = h := by
  first | refine zu (A := f_ast_of) rfl rfl rfl rfl ?_ | refine zB (A := f_ast_of) rfl rfl rfl rfl ?_
  simp only [f_ast_of, ndC]
  refine zw (fun en' h' => en' 1 = .eptr (ndC x lv) 0 ∧ en' 2 = .ptr h.length 0 ∧ en' 3 = .bool false ∧ h' = h ++ [.box 71 Zs]) ?_ ?_
  · simp only [SQ, SQB, zm, AOp.opds, step, Opd.get, zk, bin, zc, IntKind.signed, zi, zj, zl, zb, unary, ze, zd, za, zo, zr, zh, zf, zg, zp, Cp.isFull, isNil, zq, simprocAttr, SQX, V.cells, hl.gr]
  rintro en1 h1 ⟨e1, e2, e3, rfl⟩
  refine zw (fun en' h' => en' 1 = en1 1 ∧ en' 2 = en1 2 ∧ en' 3 = en1 3 ∧ en' 4 = .ptr (h.length + 1) 0 ∧ h' = h ++ [.box 71 Zs, .box 71 Pl]) ?_ ?_
  · have hf : fillParts Zs [(4, 1, (.fn (.func zzs) [] [])), (5, 1, (.fn (.func zzs) [] [])), (6, 1, (.fn (.func zt) [] [.eptr [.sc (.int .i64 0)] 0]))] = some Pl := rfl
    have hs := stA (h := h) (A := .box 71 Zs) (t := 71) (cs := Zs) (r := []) (A' := .dead) (by simp) (ds := Pl) rfl rfl rfl
    simp only [SQ, SQB, zm, AOp.opds, step, Opd.get, zk, bin, zc, IntKind.signed, zi, zj, zl, zb, unary, ze, zd, za, zo, zr, zh, zf, zg, zp, Cp.isFull, isNil, zq, simprocAttr, SQX, V.cells, zn (exactly_r _ _), getParts, hf, List.length_append, List.append_assoc, hs]
  rintro en2 h2 ⟨f1, f2, f3, f4, rfl⟩
  refine zw (fun en' h' => en' 1 = en1 1 ∧ en' 2 = en1 2 ∧ en' 3 = en1 3 ∧ en' 5 = .ptr (h.length + 2) 0 ∧ h' = h ++ [.box 71 Zs, .box 71 Pl, .box 71 Pl]) ?_ ?_
  · have hg : (h ++ [Obj.box 71 Zs, Obj.box 71 Pl])[h.length + 1]? = some (.box 71 Pl) := by simp
    have hs := st3_2a (h := h) (A := .box 71 Zs) (B := .box 71 Pl) (t := 71) (cs := Zs) (ds := Pl) rfl rfl rfl
    simp only [SQ, SQB, zm, AOp.opds, step, Opd.get, zk, bin, zc, IntKind.signed, zi, zj, zl, zb, unary, ze, zd, za, zo, zr, zh, zf, zg, zp, Cp.isFull, isNil, zq, simprocAttr, SQX, V.cells, f1, f2, f3, f4, hg, zC, List.length_append, List.append_assoc, hs]
  rintro en3 h3 ⟨g1, g2, g3, g5, rfl⟩
  rw [e1] at g1
  rw [e2] at g2
  rw [e3] at g3
  have c1 : ¬ x.kind = 1 := by omega
  have c2 : ¬ x.kind = 2 := by omega
  have c3 : ¬ x.kind = 3 := by omega
  have c4 : ¬ x.kind = 4 := by omega
  have c5 : ¬ x.kind = 5 := by omega
  have c21 : ¬ x.kind = 21 := by omega
  have c6 : ¬ x.kind = 6 := by omega
  have c7 : ¬ x.kind = 7 := by omega
  have c8 : ¬ x.kind = 8 := by omega
  have c22 : ¬ x.kind = 22 := by omega
  have c9 : ¬ x.kind = 9 := by omega
  have c10 : ¬ x.kind = 10 := by omega
  have c11 : ¬ x.kind = 11 := by omega
  have c12 : ¬ x.kind = 12 := by omega
  have c13 : ¬ x.kind = 13 := by omega
  have c14 : ¬ x.kind = 14 := by omega
  have c15 : ¬ x.kind = 15 := by omega
  have c16 : ¬ x.kind = 16 := by omega
  have c17 : ¬ x.kind = 17 := by omega
  have c18 : ¬ x.kind = 18 := by omega
  have c19 : ¬ x.kind = 19 := by omega
  have c20 : ¬ x.kind = 20 := by omega
  have c23 : ¬ x.kind = 23 := by omega
  have c24 : ¬ x.kind = 24 := by omega
  have fz : fillParts Zs [] = some Zs := rfl
  have hz := st3_0a (h := h) (t := 71) (cs := Zs) (ds := Zs) (B := .box 71 Pl) (C := .box 71 Pl) rfl rfl rfl
  simp only [SQ, SQB, zm, AOp.opds, step, Opd.get, zk, bin, zc, IntKind.signed, zi, zj, zl, zb, unary, ze, zd, za, zo, zr, zh, zf, zg, zp, Cp.isFull, isNil, zq, simprocAttr, SQX, V.cells, c1, c2, c3, c4, c5, c21, c6, c7, c8, c22, c9, c10, c11, c12, c13, c14, c15, c16, c17, c18, c19, c20, c23, c24, g1, g2, g3, g5, fz, hz, zC, at3_0, zD, kindOk, hno, List.take_left, getParts]
end
section
set_option maxHeartbeats 8000000 in
theorem of_k8 {base : Nat} {x : Nd} {lv : V} (h : Heap) (hl : LV lv x.l) (c8 : x.kind = 8) : WpF S0 base k_ast_of [.agg (ndC x lv)] h fun v h' => v = .tup [.agg (zD x lv), .bool (kindOk x.kind)] ∧ h' = h := by
  first | refine zu (A := f_ast_of) rfl rfl rfl rfl ?_ | refine zB (A := f_ast_of) rfl rfl rfl rfl ?_
  simp only [f_ast_of, ndC]
  refine zw (fun en' h' => en' 1 = .eptr (ndC x lv) 0 ∧ en' 2 = .ptr h.length 0 ∧ en' 3 = .bool false ∧ h' = h ++ [.box 71 Zs]) ?_ ?_
  · simp only [SQ, SQB, zm, AOp.opds, step, Opd.get, zk, bin, zc, IntKind.signed, zi, zj, zl, zb, unary, ze, zd, za, zo, zr, zh, zf, zg, zp, Cp.isFull, isNil, zq, simprocAttr, -List.reduceReplicate, SQX, V.cells, hl.gr]
  rintro en1 h1 ⟨e1, e2, e3, rfl⟩
  refine zw (fun en' h' => en' 1 = en1 1 ∧ en' 2 = en1 2 ∧ en' 3 = en1 3 ∧ en' 4 = .ptr (h.length + 1) 0 ∧ h' = h ++ [.box 71 Zs, .box 71 Pl]) ?_ ?_
  · have hf : fillParts Zs [(4, 1, (.fn (.func zzs) [] [])), (5, 1, (.fn (.func zzs) [] [])), (6, 1, (.fn (.func zt) [] [.eptr [.sc (.int .i64 0)] 0]))] = some Pl := rfl
    have hs := stA (h := h) (A := .box 71 Zs) (t := 71) (cs := Zs) (r := []) (A' := .dead) (by simp) (ds := Pl) rfl rfl rfl
    simp only [SQ, SQB, zm, AOp.opds, step, Opd.get, zk, bin, zc, IntKind.signed, zi, zj, zl, zb, unary, ze, zd, za, zo, zr, zh, zf, zg, zp, Cp.isFull, isNil, zq, simprocAttr, -List.reduceReplicate, SQX, V.cells, zn (exactly_r _ _), getParts, hf, List.length_append, List.append_assoc, hs]
  rintro en2 h2 ⟨f1, f2, f3, f4, rfl⟩
  refine zw (fun en' h' => en' 1 = en1 1 ∧ en' 2 = en1 2 ∧ en' 3 = en1 3 ∧ en' 5 = .ptr (h.length + 2) 0 ∧ h' = h ++ [.box 71 Zs, .box 71 Pl, .box 71 Pl]) ?_ ?_
  · have hg : (h ++ [Obj.box 71 Zs, Obj.box 71 Pl])[h.length + 1]? = some (.box 71 Pl) := by simp
    have hs := st3_2a (h := h) (A := .box 71 Zs) (B := .box 71 Pl) (t := 71) (cs := Zs) (ds := Pl) rfl rfl rfl
    simp only [SQ, SQB, zm, AOp.opds, step, Opd.get, zk, bin, zc, IntKind.signed, zi, zj, zl, zb, unary, ze, zd, za, zo, zr, zh, zf, zg, zp, Cp.isFull, isNil, zq, simprocAttr, -List.reduceReplicate, SQX, V.cells, f1, f2, f3, f4, hg, zC, List.length_append, List.append_assoc, hs]
  rintro en3 h3 ⟨g1, g2, g3, g5, rfl⟩
  rw [e1] at g1
  rw [e2] at g2
  rw [e3] at g3
  have c1 : ¬ x.kind = 1 := by omega
  have c2 : ¬ x.kind = 2 := by omega
  have c3 : ¬ x.kind = 3 := by omega
  have c4 : ¬ x.kind = 4 := by omega
  have c5 : ¬ x.kind = 5 := by omega
  have c21 : ¬ x.kind = 21 := by omega
  have c6 : ¬ x.kind = 6 := by omega
  have c7 : ¬ x.kind = 7 := by omega
  have fl1 : zv 1 (List.replicate 2 [V.sc (.int .i64 (0))]) [(0, V.sc (.int .i64 (0))), (1, V.sc (.int .i64 (1)))] = some [[V.sc (.int .i64 (0))], [V.sc (.int .i64 (1))]] := rfl
  have fl2 : zv 1 (List.replicate 2 [V.sc (.int .i64 (0))]) [(0, V.sc (.int .i64 (0))), (1, V.sc (.int .i64 (2)))] = some [[V.sc (.int .i64 (0))], [V.sc (.int .i64 (2))]] := rfl
  have fl3 : zv 1 (List.replicate 4 [V.sc (.int .i64 (0))]) [(0, V.sc (.int .i64 (0))), (1, V.sc (.int .i64 (1))), (2, V.sc (.int .i64 (2))), (3, V.sc (.int .i64 (3)))] = some [[V.sc (.int .i64 (0))], [V.sc (.int .i64 (1))], [V.sc (.int .i64 (2))], [V.sc (.int .i64 (3))]] := rfl
  have fl4 : zv 1 (List.replicate 3 [V.sc (.int .i64 (0))]) [(0, V.sc (.int .i64 (1))), (1, V.sc (.int .i64 (2))), (2, V.sc (.int .i64 (3)))] = some [[V.sc (.int .i64 (1))], [V.sc (.int .i64 (2))], [V.sc (.int .i64 (3))]] := rfl
  simp only [SQ, SQB, zm, AOp.opds, step, Opd.get, zk, bin, zc, IntKind.signed, zi, zj, zl, zb, unary, ze, zd, za, zo, zr, zh, zf, zg, zp, Cp.isFull, isNil, zq, simprocAttr, -List.reduceReplicate, SQX, V.cells, c1, c2, c3, c4, c5, c21, c6, c7, c8, g1, g2, g3, g5, zn (exactly_r _ _), zn (headed_r _ _ _), zn (one_r _ _ _), st3_2s, st3_2f, at3_2, zC, st3_0a, at3_0, Frz_fn0, Frz_fn1, Frz_fn2, zD, kindOk, shC, List.set, getParts, getParts2, fl1, fl2, fl3, fl4, List.map_cons, List.map_nil, Option.bind_some, List.length_cons, List.length_nil, List.take_left]
set_option maxHeartbeats 8000000 in
theorem of_k22 {base : Nat} {x : Nd} {lv : V} (h : Heap) (hl : LV lv x.l) (c22 : x.kind = 22) : WpF S0 base k_ast_of [.agg (ndC x lv)] h fun v h' => v = .tup [.agg (zD x lv), .bool (kindOk x.kind)] ∧ h' = h := by
  first | refine zu (A := f_ast_of) rfl rfl rfl rfl ?_ | refine zB (A := f_ast_of) rfl rfl rfl rfl ?_
  simp only [f_ast_of, ndC]
  refine zw (fun en' h' => en' 1 = .eptr (ndC x lv) 0 ∧ en' 2 = .ptr h.length 0 ∧ en' 3 = .bool false ∧ h' = h ++ [.box 71 Zs]) ?_ ?_
  · simp only [SQ, SQB, zm, AOp.opds, step, Opd.get, zk, bin, zc, IntKind.signed, zi, zj, zl, zb, unary, ze, zd, za, zo, zr, zh, zf, zg, zp, Cp.isFull, isNil, zq, simprocAttr, -List.reduceReplicate, SQX, V.cells, hl.gr]
  rintro en1 h1 ⟨e1, e2, e3, rfl⟩
  refine zw (fun en' h' => en' 1 = en1 1 ∧ en' 2 = en1 2 ∧ en' 3 = en1 3 ∧ en' 4 = .ptr (h.length + 1) 0 ∧ h' = h ++ [.box 71 Zs, .box 71 Pl]) ?_ ?_
  · have hf : fillParts Zs [(4, 1, (.fn (.func zzs) [] [])), (5, 1, (.fn (.func zzs) [] [])), (6, 1, (.fn (.func zt) [] [.eptr [.sc (.int .i64 0)] 0]))] = some Pl := rfl
    have hs := stA (h := h) (A := .box 71 Zs) (t := 71) (cs := Zs) (r := []) (A' := .dead) (by simp) (ds := Pl) rfl rfl rfl
    simp only [SQ, SQB, zm, AOp.opds, step, Opd.get, zk, bin, zc, IntKind.signed, zi, zj, zl, zb, unary, ze, zd, za, zo, zr, zh, zf, zg, zp, Cp.isFull, isNil, zq, simprocAttr, -List.reduceReplicate, SQX, V.cells, zn (exactly_r _ _), getParts, hf, List.length_append, List.append_assoc, hs]
  rintro en2 h2 ⟨f1, f2, f3, f4, rfl⟩
  refine zw (fun en' h' => en' 1 = en1 1 ∧ en' 2 = en1 2 ∧ en' 3 = en1 3 ∧ en' 5 = .ptr (h.length + 2) 0 ∧ h' = h ++ [.box 71 Zs, .box 71 Pl, .box 71 Pl]) ?_ ?_
  · have hg : (h ++ [Obj.box 71 Zs, Obj.box 71 Pl])[h.length + 1]? = some (.box 71 Pl) := by simp
    have hs := st3_2a (h := h) (A := .box 71 Zs) (B := .box 71 Pl) (t := 71) (cs := Zs) (ds := Pl) rfl rfl rfl
    simp only [SQ, SQB, zm, AOp.opds, step, Opd.get, zk, bin, zc, IntKind.signed, zi, zj, zl, zb, unary, ze, zd, za, zo, zr, zh, zf, zg, zp, Cp.isFull, isNil, zq, simprocAttr, -List.reduceReplicate, SQX, V.cells, f1, f2, f3, f4, hg, zC, List.length_append, List.append_assoc, hs]
  rintro en3 h3 ⟨g1, g2, g3, g5, rfl⟩
  rw [e1] at g1
  rw [e2] at g2
  rw [e3] at g3
  have c1 : ¬ x.kind = 1 := by omega
  have c2 : ¬ x.kind = 2 := by omega
  have c3 : ¬ x.kind = 3 := by omega
  have c4 : ¬ x.kind = 4 := by omega
  have c5 : ¬ x.kind = 5 := by omega
  have c21 : ¬ x.kind = 21 := by omega
  have c6 : ¬ x.kind = 6 := by omega
  have c7 : ¬ x.kind = 7 := by omega
  have c8 : ¬ x.kind = 8 := by omega
  have fl1 : zv 1 (List.replicate 2 [V.sc (.int .i64 (0))]) [(0, V.sc (.int .i64 (0))), (1, V.sc (.int .i64 (1)))] = some [[V.sc (.int .i64 (0))], [V.sc (.int .i64 (1))]] := rfl
  have fl2 : zv 1 (List.replicate 2 [V.sc (.int .i64 (0))]) [(0, V.sc (.int .i64 (0))), (1, V.sc (.int .i64 (2)))] = some [[V.sc (.int .i64 (0))], [V.sc (.int .i64 (2))]] := rfl
  have fl3 : zv 1 (List.replicate 4 [V.sc (.int .i64 (0))]) [(0, V.sc (.int .i64 (0))), (1, V.sc (.int .i64 (1))), (2, V.sc (.int .i64 (2))), (3, V.sc (.int .i64 (3)))] = some [[V.sc (.int .i64 (0))], [V.sc (.int .i64 (1))], [V.sc (.int .i64 (2))], [V.sc (.int .i64 (3))]] := rfl
  have fl4 : zv 1 (List.replicate 3 [V.sc (.int .i64 (0))]) [(0, V.sc (.int .i64 (1))), (1, V.sc (.int .i64 (2))), (2, V.sc (.int .i64 (3)))] = some [[V.sc (.int .i64 (1))], [V.sc (.int .i64 (2))], [V.sc (.int .i64 (3))]] := rfl
  simp only [SQ, SQB, zm, AOp.opds, step, Opd.get, zk, bin, zc, IntKind.signed, zi, zj, zl, zb, unary, ze, zd, za, zo, zr, zh, zf, zg, zp, Cp.isFull, isNil, zq, simprocAttr, -List.reduceReplicate, SQX, V.cells, c1, c2, c3, c4, c5, c21, c6, c7, c8, c22, g1, g2, g3, g5, zn (exactly_r _ _), zn (headed_r _ _ _), zn (one_r _ _ _), st3_2s, st3_2f, at3_2, zC, st3_0a, at3_0, Frz_fn0, Frz_fn1, Frz_fn2, zD, kindOk, shC, List.set, getParts, getParts2, fl1, fl2, fl3, fl4, List.map_cons, List.map_nil, Option.bind_some, List.length_cons, List.length_nil, List.take_left]
set_option maxHeartbeats 8000000 in
theorem of_k9 {base : Nat} {x : Nd} {lv : V} (h : Heap) (hl : LV lv x.l) (c9 : x.kind = 9) : WpF S0 base k_ast_of [.agg (ndC x lv)] h fun v h' => v = .tup [.agg (zD x lv), .bool (kindOk x.kind)] ∧ h' = h := by
  first | refine zu (A := f_ast_of) rfl rfl rfl rfl ?_ | refine zB (A := f_ast_of) rfl rfl rfl rfl ?_
  simp only [f_ast_of, ndC]
  refine zw (fun en' h' => en' 1 = .eptr (ndC x lv) 0 ∧ en' 2 = .ptr h.length 0 ∧ en' 3 = .bool false ∧ h' = h ++ [.box 71 Zs]) ?_ ?_
  · simp only [SQ, SQB, zm, AOp.opds, step, Opd.get, zk, bin, zc, IntKind.signed, zi, zj, zl, zb, unary, ze, zd, za, zo, zr, zh, zf, zg, zp, Cp.isFull, isNil, zq, simprocAttr, -List.reduceReplicate, SQX, V.cells, hl.gr]
  rintro en1 h1 ⟨e1, e2, e3, rfl⟩
  refine zw (fun en' h' => en' 1 = en1 1 ∧ en' 2 = en1 2 ∧ en' 3 = en1 3 ∧ en' 4 = .ptr (h.length + 1) 0 ∧ h' = h ++ [.box 71 Zs, .box 71 Pl]) ?_ ?_
  · have hf : fillParts Zs [(4, 1, (.fn (.func zzs) [] [])), (5, 1, (.fn (.func zzs) [] [])), (6, 1, (.fn (.func zt) [] [.eptr [.sc (.int .i64 0)] 0]))] = some Pl := rfl
    have hs := stA (h := h) (A := .box 71 Zs) (t := 71) (cs := Zs) (r := []) (A' := .dead) (by simp) (ds := Pl) rfl rfl rfl
    simp only [SQ, SQB, zm, AOp.opds, step, Opd.get, zk, bin, zc, IntKind.signed, zi, zj, zl, zb, unary, ze, zd, za, zo, zr, zh, zf, zg, zp, Cp.isFull, isNil, zq, simprocAttr, -List.reduceReplicate, SQX, V.cells, zn (exactly_r _ _), getParts, hf, List.length_append, List.append_assoc, hs]
  rintro en2 h2 ⟨f1, f2, f3, f4, rfl⟩
  refine zw (fun en' h' => en' 1 = en1 1 ∧ en' 2 = en1 2 ∧ en' 3 = en1 3 ∧ en' 5 = .ptr (h.length + 2) 0 ∧ h' = h ++ [.box 71 Zs, .box 71 Pl, .box 71 Pl]) ?_ ?_
  · have hg : (h ++ [Obj.box 71 Zs, Obj.box 71 Pl])[h.length + 1]? = some (.box 71 Pl) := by simp
    have hs := st3_2a (h := h) (A := .box 71 Zs) (B := .box 71 Pl) (t := 71) (cs := Zs) (ds := Pl) rfl rfl rfl
    simp only [SQ, SQB, zm, AOp.opds, step, Opd.get, zk, bin, zc, IntKind.signed, zi, zj, zl, zb, unary, ze, zd, za, zo, zr, zh, zf, zg, zp, Cp.isFull, isNil, zq, simprocAttr, -List.reduceReplicate, SQX, V.cells, f1, f2, f3, f4, hg, zC, List.length_append, List.append_assoc, hs]
  rintro en3 h3 ⟨g1, g2, g3, g5, rfl⟩
  rw [e1] at g1
  rw [e2] at g2
  rw [e3] at g3
  have c1 : ¬ x.kind = 1 := by omega
  have c2 : ¬ x.kind = 2 := by omega
  have c3 : ¬ x.kind = 3 := by omega
  have c4 : ¬ x.kind = 4 := by omega
  have c5 : ¬ x.kind = 5 := by omega
  have c21 : ¬ x.kind = 21 := by omega
  have c6 : ¬ x.kind = 6 := by omega
  have c7 : ¬ x.kind = 7 := by omega
  have c8 : ¬ x.kind = 8 := by omega
  have c22 : ¬ x.kind = 22 := by omega
  have fl1 : zv 1 (List.replicate 2 [V.sc (.int .i64 (0))]) [(0, V.sc (.int .i64 (0))), (1, V.sc (.int .i64 (1)))] = some [[V.sc (.int .i64 (0))], [V.sc (.int .i64 (1))]] := rfl
  have fl2 : zv 1 (List.replicate 2 [V.sc (.int .i64 (0))]) [(0, V.sc (.int .i64 (0))), (1, V.sc (.int .i64 (2)))] = some [[V.sc (.int .i64 (0))], [V.sc (.int .i64 (2))]] := rfl
  have fl3 : zv 1 (List.replicate 4 [V.sc (.int .i64 (0))]) [(0, V.sc (.int .i64 (0))), (1, V.sc (.int .i64 (1))), (2, V.sc (.int .i64 (2))), (3, V.sc (.int .i64 (3)))] = some [[V.sc (.int .i64 (0))], [V.sc (.int .i64 (1))], [V.sc (.int .i64 (2))], [V.sc (.int .i64 (3))]] := rfl
  have fl4 : zv 1 (List.replicate 3 [V.sc (.int .i64 (0))]) [(0, V.sc (.int .i64 (1))), (1, V.sc (.int .i64 (2))), (2, V.sc (.int .i64 (3)))] = some [[V.sc (.int .i64 (1))], [V.sc (.int .i64 (2))], [V.sc (.int .i64 (3))]] := rfl
  simp only [SQ, SQB, zm, AOp.opds, step, Opd.get, zk, bin, zc, IntKind.signed, zi, zj, zl, zb, unary, ze, zd, za, zo, zr, zh, zf, zg, zp, Cp.isFull, isNil, zq, simprocAttr, -List.reduceReplicate, SQX, V.cells, c1, c2, c3, c4, c5, c21, c6, c7, c8, c22, c9, g1, g2, g3, g5, zn (exactly_r _ _), zn (headed_r _ _ _), zn (one_r _ _ _), st3_2s, st3_2f, at3_2, zC, st3_0a, at3_0, Frz_fn0, Frz_fn1, Frz_fn2, zD, kindOk, shC, List.set, getParts, getParts2, fl1, fl2, fl3, fl4, List.map_cons, List.map_nil, Option.bind_some, List.length_cons, List.length_nil, List.take_left]
set_option maxHeartbeats 8000000 in
theorem of_k10 {base : Nat} {x : Nd} {lv : V} (h : Heap) (hl : LV lv x.l) (c10 : x.kind = 10) : WpF S0 base k_ast_of [.agg (ndC x lv)] h fun v h' => v = .tup [.agg (zD x lv), .bool (kindOk x.kind)] ∧ h' = h := by
  first | refine zu (A := f_ast_of) rfl rfl rfl rfl ?_ | refine zB (A := f_ast_of) rfl rfl rfl rfl ?_
  simp only [f_ast_of, ndC]
  refine zw (fun en' h' => en' 1 = .eptr (ndC x lv) 0 ∧ en' 2 = .ptr h.length 0 ∧ en' 3 = .bool false ∧ h' = h ++ [.box 71 Zs]) ?_ ?_
  · simp only [SQ, SQB, zm, AOp.opds, step, Opd.get, zk, bin, zc, IntKind.signed, zi, zj, zl, zb, unary, ze, zd, za, zo, zr, zh, zf, zg, zp, Cp.isFull, isNil, zq, simprocAttr, -List.reduceReplicate, SQX, V.cells, hl.gr]
  rintro en1 h1 ⟨e1, e2, e3, rfl⟩
  refine zw (fun en' h' => en' 1 = en1 1 ∧ en' 2 = en1 2 ∧ en' 3 = en1 3 ∧ en' 4 = .ptr (h.length + 1) 0 ∧ h' = h ++ [.box 71 Zs, .box 71 Pl]) ?_ ?_
  · have hf : fillParts Zs [(4, 1, (.fn (.func zzs) [] [])), (5, 1, (.fn (.func zzs) [] [])), (6, 1, (.fn (.func zt) [] [.eptr [.sc (.int .i64 0)] 0]))] = some Pl := rfl
    have hs := stA (h := h) (A := .box 71 Zs) (t := 71) (cs := Zs) (r := []) (A' := .dead) (by simp) (ds := Pl) rfl rfl rfl
    simp only [SQ, SQB, zm, AOp.opds, step, Opd.get, zk, bin, zc, IntKind.signed, zi, zj, zl, zb, unary, ze, zd, za, zo, zr, zh, zf, zg, zp, Cp.isFull, isNil, zq, simprocAttr, -List.reduceReplicate, SQX, V.cells, zn (exactly_r _ _), getParts, hf, List.length_append, List.append_assoc, hs]
  rintro en2 h2 ⟨f1, f2, f3, f4, rfl⟩
  refine zw (fun en' h' => en' 1 = en1 1 ∧ en' 2 = en1 2 ∧ en' 3 = en1 3 ∧ en' 5 = .ptr (h.length + 2) 0 ∧ h' = h ++ [.box 71 Zs, .box 71 Pl, .box 71 Pl]) ?_ ?_
  · have hg : (h ++ [Obj.box 71 Zs, Obj.box 71 Pl])[h.length + 1]? = some (.box 71 Pl) := by simp
    have hs := st3_2a (h := h) (A := .box 71 Zs) (B := .box 71 Pl) (t := 71) (cs := Zs) (ds := Pl) rfl rfl rfl
    simp only [SQ, SQB, zm, AOp.opds, step, Opd.get, zk, bin, zc, IntKind.signed, zi, zj, zl, zb, unary, ze, zd, za, zo, zr, zh, zf, zg, zp, Cp.isFull, isNil, zq, simprocAttr, -List.reduceReplicate, SQX, V.cells, f1, f2, f3, f4, hg, zC, List.length_append, List.append_assoc, hs]
  rintro en3 h3 ⟨g1, g2, g3, g5, rfl⟩
  rw [e1] at g1
  rw [e2] at g2
  rw [e3] at g3
  have c1 : ¬ x.kind = 1 := by omega
  have c2 : ¬ x.kind = 2 := by omega
  have c3 : ¬ x.kind = 3 := by omega
  have c4 : ¬ x.kind = 4 := by omega
  have c5 : ¬ x.kind = 5 := by omega
  have c21 : ¬ x.kind = 21 := by omega
  have c6 : ¬ x.kind = 6 := by omega
  have c7 : ¬ x.kind = 7 := by omega
  have c8 : ¬ x.kind = 8 := by omega
  have c22 : ¬ x.kind = 22 := by omega
  have c9 : ¬ x.kind = 9 := by omega
  have fl1 : zv 1 (List.replicate 2 [V.sc (.int .i64 (0))]) [(0, V.sc (.int .i64 (0))), (1, V.sc (.int .i64 (1)))] = some [[V.sc (.int .i64 (0))], [V.sc (.int .i64 (1))]] := rfl
  have fl2 : zv 1 (List.replicate 2 [V.sc (.int .i64 (0))]) [(0, V.sc (.int .i64 (0))), (1, V.sc (.int .i64 (2)))] = some [[V.sc (.int .i64 (0))], [V.sc (.int .i64 (2))]] := rfl
  have fl3 : zv 1 (List.replicate 4 [V.sc (.int .i64 (0))]) [(0, V.sc (.int .i64 (0))), (1, V.sc (.int .i64 (1))), (2, V.sc (.int .i64 (2))), (3, V.sc (.int .i64 (3)))] = some [[V.sc (.int .i64 (0))], [V.sc (.int .i64 (1))], [V.sc (.int .i64 (2))], [V.sc (.int .i64 (3))]] := rfl
  have fl4 : zv 1 (List.replicate 3 [V.sc (.int .i64 (0))]) [(0, V.sc (.int .i64 (1))), (1, V.sc (.int .i64 (2))), (2, V.sc (.int .i64 (3)))] = some [[V.sc (.int .i64 (1))], [V.sc (.int .i64 (2))], [V.sc (.int .i64 (3))]] := rfl
  simp only [SQ, SQB, zm, AOp.opds, step, Opd.get, zk, bin, zc, IntKind.signed, zi, zj, zl, zb, unary, ze, zd, za, zo, zr, zh, zf, zg, zp, Cp.isFull, isNil, zq, simprocAttr, -List.reduceReplicate, SQX, V.cells, c1, c2, c3, c4, c5, c21, c6, c7, c8, c22, c9, c10, g1, g2, g3, g5, zn (exactly_r _ _), zn (headed_r _ _ _), zn (one_r _ _ _), st3_2s, st3_2f, at3_2, zC, st3_0a, at3_0, Frz_fn0, Frz_fn1, Frz_fn2, zD, kindOk, shC, List.set, getParts, getParts2, fl1, fl2, fl3, fl4, List.map_cons, List.map_nil, Option.bind_some, List.length_cons, List.length_nil, List.take_left]
end
section
set_option maxHeartbeats 8000000 in
theorem of_k11 {base : Nat} {x : Nd} {lv : V} (h : Heap) (hl : LV lv x.l) (c11 : x.kind = 11) : WpF S0 base k_ast_of [.agg (ndC x lv)] h fun v h' => v = .tup [.agg (zD x lv), .bool (kindOk x.kind)] ∧ h' = h := by
  first | refine zu (A := f_ast_of) rfl rfl rfl rfl ?_ | refine zB (A := f_ast_of) rfl rfl rfl rfl ?_
  simp only [f_ast_of, ndC]
  refine zw (fun en' h' => en' 1 = .eptr (ndC x lv) 0 ∧ en' 2 = .ptr h.length 0 ∧ en' 3 = .bool false ∧ h' = h ++ [.box 71 Zs]) ?_ ?_
  · simp only [SQ, SQB, zm, AOp.opds, step, Opd.get, zk, bin, zc, IntKind.signed, zi, zj, zl, zb, unary, ze, zd, za, zo, zr, zh, zf, zg, zp, Cp.isFull, isNil, zq, simprocAttr, -List.reduceReplicate, SQX, V.cells, hl.gr]
  rintro en1 h1 ⟨e1, e2, e3, rfl⟩
  refine zw (fun en' h' => en' 1 = en1 1 ∧ en' 2 = en1 2 ∧ en' 3 = en1 3 ∧ en' 4 = .ptr (h.length + 1) 0 ∧ h' = h ++ [.box 71 Zs, .box 71 Pl]) ?_ ?_
  · have hf : fillParts Zs [(4, 1, (.fn (.func zzs) [] [])), (5, 1, (.fn (.func zzs) [] [])), (6, 1, (.fn (.func zt) [] [.eptr [.sc (.int .i64 0)] 0]))] = some Pl := rfl
    have hs := stA (h := h) (A := .box 71 Zs) (t := 71) (cs := Zs) (r := []) (A' := .dead) (by simp) (ds := Pl) rfl rfl rfl
    simp only [SQ, SQB, zm, AOp.opds, step, Opd.get, zk, bin, zc, IntKind.signed, zi, zj, zl, zb, unary, ze, zd, za, zo, zr, zh, zf, zg, zp, Cp.isFull, isNil, zq, simprocAttr, -List.reduceReplicate, SQX, V.cells, zn (exactly_r _ _), getParts, hf, List.length_append, List.append_assoc, hs]
  rintro en2 h2 ⟨f1, f2, f3, f4, rfl⟩
  refine zw (fun en' h' => en' 1 = en1 1 ∧ en' 2 = en1 2 ∧ en' 3 = en1 3 ∧ en' 5 = .ptr (h.length + 2) 0 ∧ h' = h ++ [.box 71 Zs, .box 71 Pl, .box 71 Pl]) ?_ ?_
  · have hg : (h ++ [Obj.box 71 Zs, Obj.box 71 Pl])[h.length + 1]? = some (.box 71 Pl) := by simp
    have hs := st3_2a (h := h) (A := .box 71 Zs) (B := .box 71 Pl) (t := 71) (cs := Zs) (ds := Pl) rfl rfl rfl
    simp only [SQ, SQB, zm, AOp.opds, step, Opd.get, zk, bin, zc, IntKind.signed, zi, zj, zl, zb, unary, ze, zd, za, zo, zr, zh, zf, zg, zp, Cp.isFull, isNil, zq, simprocAttr, -List.reduceReplicate, SQX, V.cells, f1, f2, f3, f4, hg, zC, List.length_append, List.append_assoc, hs]
  rintro en3 h3 ⟨g1, g2, g3, g5, rfl⟩
  rw [e1] at g1
  rw [e2] at g2
  rw [e3] at g3
  have c1 : ¬ x.kind = 1 := by omega
  have c2 : ¬ x.kind = 2 := by omega
  have c3 : ¬ x.kind = 3 := by omega
  have c4 : ¬ x.kind = 4 := by omega
  have c5 : ¬ x.kind = 5 := by omega
  have c21 : ¬ x.kind = 21 := by omega
  have c6 : ¬ x.kind = 6 := by omega
  have c7 : ¬ x.kind = 7 := by omega
  have c8 : ¬ x.kind = 8 := by omega
  have c22 : ¬ x.kind = 22 := by omega
  have c9 : ¬ x.kind = 9 := by omega
  have c10 : ¬ x.kind = 10 := by omega
  have fl1 : zv 1 (List.replicate 2 [V.sc (.int .i64 (0))]) [(0, V.sc (.int .i64 (0))), (1, V.sc (.int .i64 (1)))] = some [[V.sc (.int .i64 (0))], [V.sc (.int .i64 (1))]] := rfl
  have fl2 : zv 1 (List.replicate 2 [V.sc (.int .i64 (0))]) [(0, V.sc (.int .i64 (0))), (1, V.sc (.int .i64 (2)))] = some [[V.sc (.int .i64 (0))], [V.sc (.int .i64 (2))]] := rfl
  have fl3 : zv 1 (List.replicate 4 [V.sc (.int .i64 (0))]) [(0, V.sc (.int .i64 (0))), (1, V.sc (.int .i64 (1))), (2, V.sc (.int .i64 (2))), (3, V.sc (.int .i64 (3)))] = some [[V.sc (.int .i64 (0))], [V.sc (.int .i64 (1))], [V.sc (.int .i64 (2))], [V.sc (.int .i64 (3))]] := rfl
  have fl4 : zv 1 (List.replicate 3 [V.sc (.int .i64 (0))]) [(0, V.sc (.int .i64 (1))), (1, V.sc (.int .i64 (2))), (2, V.sc (.int .i64 (3)))] = some [[V.sc (.int .i64 (1))], [V.sc (.int .i64 (2))], [V.sc (.int .i64 (3))]] := rfl
  simp only [SQ, SQB, zm, AOp.opds, step, Opd.get, zk, bin, zc, IntKind.signed, zi, zj, zl, zb, unary, ze, zd, za, zo, zr, zh, zf, zg, zp, Cp.isFull, isNil, zq, simprocAttr, -List.reduceReplicate, SQX, V.cells, c1, c2, c3, c4, c5, c21, c6, c7, c8, c22, c9, c10, c11, g1, g2, g3, g5, zn (exactly_r _ _), zn (headed_r _ _ _), zn (one_r _ _ _), st3_2s, st3_2f, at3_2, zC, st3_0a, at3_0, Frz_fn0, Frz_fn1, Frz_fn2, zD, kindOk, shC, List.set, getParts, getParts2, fl1, fl2, fl3, fl4, List.map_cons, List.map_nil, Option.bind_some, List.length_cons, List.length_nil, List.take_left]
set_option maxHeartbeats 8000000 in
theorem of_k12 {base : Nat} {x : Nd} {lv : V} (h : Heap) (hl : LV lv x.l) (c12 : x.kind = 12) : WpF S0 base k_ast_of [.agg (ndC x lv)] h fun v h' => v = .tup [.agg (zD x lv), .bool (kindOk x.kind)] ∧ h' = h := by
  first | refine zu (A := f_ast_of) rfl rfl rfl rfl ?_ | refine zB (A := f_ast_of) rfl rfl rfl rfl ?_
  simp only [f_ast_of, ndC]
  refine zw (fun en' h' => en' 1 = .eptr (ndC x lv) 0 ∧ en' 2 = .ptr h.length 0 ∧ en' 3 = .bool false ∧ h' = h ++ [.box 71 Zs]) ?_ ?_
  · simp only [SQ, SQB, zm, AOp.opds, step, Opd.get, zk, bin, zc, IntKind.signed, zi, zj, zl, zb, unary, ze, zd, za, zo, zr, zh, zf, zg, zp, Cp.isFull, isNil, zq, simprocAttr, -List.reduceReplicate, SQX, V.cells, hl.gr]
  rintro en1 h1 ⟨e1, e2, e3, rfl⟩
  refine zw (fun en' h' => en' 1 = en1 1 ∧ en' 2 = en1 2 ∧ en' 3 = en1 3 ∧ en' 4 = .ptr (h.length + 1) 0 ∧ h' = h ++ [.box 71 Zs, .box 71 Pl]) ?_ ?_
  · have hf : fillParts Zs [(4, 1, (.fn (.func zzs) [] [])), (5, 1, (.fn (.func zzs) [] [])), (6, 1, (.fn (.func zt) [] [.eptr [.sc (.int .i64 0)] 0]))] = some Pl := rfl
    have hs := stA (h := h) (A := .box 71 Zs) (t := 71) (cs := Zs) (r := []) (A' := .dead) (by simp) (ds := Pl) rfl rfl rfl
    simp only [SQ, SQB, zm, AOp.opds, step, Opd.get, zk, bin, zc, IntKind.signed, zi, zj, zl, zb, unary, ze, zd, za, zo, zr, zh, zf, zg, zp, Cp.isFull, isNil, zq, simprocAttr, -List.reduceReplicate, SQX, V.cells, zn (exactly_r _ _), getParts, hf, List.length_append, List.append_assoc, hs]
  rintro en2 h2 ⟨f1, f2, f3, f4, rfl⟩
  refine zw (fun en' h' => en' 1 = en1 1 ∧ en' 2 = en1 2 ∧ en' 3 = en1 3 ∧ en' 5 = .ptr (h.length + 2) 0 ∧ h' = h ++ [.box 71 Zs, .box 71 Pl, .box 71 Pl]) ?_ ?_
  · have hg : (h ++ [Obj.box 71 Zs, Obj.box 71 Pl])[h.length + 1]? = some (.box 71 Pl) := by simp
    have hs := st3_2a (h := h) (A := .box 71 Zs) (B := .box 71 Pl) (t := 71) (cs := Zs) (ds := Pl) rfl rfl rfl
    simp only [SQ, SQB, zm, AOp.opds, step, Opd.get, zk, bin, zc, IntKind.signed, zi, zj, zl, zb, unary, ze, zd, za, zo, zr, zh, zf, zg, zp, Cp.isFull, isNil, zq, simprocAttr, -List.reduceReplicate, SQX, V.cells, f1, f2, f3, f4, hg, zC, List.length_append, List.append_assoc, hs]
  rintro en3 h3 ⟨g1, g2, g3, g5, rfl⟩
  rw [e1] at g1
  rw [e2] at g2
  rw [e3] at g3
  have c1 : ¬ x.kind = 1 := by omega
  have c2 : ¬ x.kind = 2 := by omega
  have c3 : ¬ x.kind = 3 := by omega
  have c4 : ¬ x.kind = 4 := by omega
  have c5 : ¬ x.kind = 5 := by omega
  have c21 : ¬ x.kind = 21 := by omega
  have c6 : ¬ x.kind = 6 := by omega
  have c7 : ¬ x.kind = 7 := by omega
  have c8 : ¬ x.kind = 8 := by omega
  have c22 : ¬ x.kind = 22 := by omega
  have c9 : ¬ x.kind = 9 := by omega
  have c10 : ¬ x.kind = 10 := by omega
  have c11 : ¬ x.kind = 11 := by omega
  have fl1 : zv 1 (List.replicate 2 [V.sc (.int .i64 (0))]) [(0, V.sc (.int .i64 (0))), (1, V.sc (.int .i64 (1)))] = some [[V.sc (.int .i64 (0))], [V.sc (.int .i64 (1))]] := rfl
  have fl2 : zv 1 (List.replicate 2 [V.sc (.int .i64 (0))]) [(0, V.sc (.int .i64 (0))), (1, V.sc (.int .i64 (2)))] = some [[V.sc (.int .i64 (0))], [V.sc (.int .i64 (2))]] := rfl
  have fl3 : zv 1 (List.replicate 4 [V.sc (.int .i64 (0))]) [(0, V.sc (.int .i64 (0))), (1, V.sc (.int .i64 (1))), (2, V.sc (.int .i64 (2))), (3, V.sc (.int .i64 (3)))] = some [[V.sc (.int .i64 (0))], [V.sc (.int .i64 (1))], [V.sc (.int .i64 (2))], [V.sc (.int .i64 (3))]] := rfl
  have fl4 : zv 1 (List.replicate 3 [V.sc (.int .i64 (0))]) [(0, V.sc (.int .i64 (1))), (1, V.sc (.int .i64 (2))), (2, V.sc (.int .i64 (3)))] = some [[V.sc (.int .i64 (1))], [V.sc (.int .i64 (2))], [V.sc (.int .i64 (3))]] := rfl
  simp only [SQ, SQB, zm, AOp.opds, step, Opd.get, zk, bin, zc, IntKind.signed, zi, zj, zl, zb, unary, ze, zd, za, zo, zr, zh, zf, zg, zp, Cp.isFull, isNil, zq, simprocAttr, -List.reduceReplicate, SQX, V.cells, c1, c2, c3, c4, c5, c21, c6, c7, c8, c22, c9, c10, c11, c12, g1, g2, g3, g5, zn (exactly_r _ _), zn (headed_r _ _ _), zn (one_r _ _ _), st3_2s, st3_2f, at3_2, zC, st3_0a, at3_0, Frz_fn0, Frz_fn1, Frz_fn2, zD, kindOk, shC, List.set, getParts, getParts2, fl1, fl2, fl3, fl4, List.map_cons, List.map_nil, Option.bind_some, List.length_cons, List.length_nil, List.take_left]
set_option maxHeartbeats 8000000 in
theorem of_k13 {base : Nat} {x : Nd} {lv : V} (h : Heap) (hl : LV lv x.l) (c13 : x.kind = 13) : WpF S0 base k_ast_of [.agg (ndC x lv)] h fun v h' => v = .tup [.agg (zD x lv), .bool (kindOk x.kind)] ∧ h' = h := by
  first | refine zu (A := f_ast_of) rfl rfl rfl rfl ?_ | refine zB (A := f_ast_of) rfl rfl rfl rfl ?_
  simp only [f_ast_of, ndC]
  refine zw (fun en' h' => en' 1 = .eptr (ndC x lv) 0 ∧ en' 2 = .ptr h.length 0 ∧ en' 3 = .bool false ∧ h' = h ++ [.box 71 Zs]) ?_ ?_
  · simp only [SQ, SQB, zm, AOp.opds, step, Opd.get, zk, bin, zc, IntKind.signed, zi, zj, zl, zb, unary, ze, zd, za, zo, zr, zh, zf, zg, zp, Cp.isFull, isNil, zq, simprocAttr, -List.reduceReplicate, SQX, V.cells, hl.gr]
  rintro en1 h1 ⟨e1, e2, e3, rfl⟩
  refine zw (fun en' h' => en' 1 = en1 1 ∧ en' 2 = en1 2 ∧ en' 3 = en1 3 ∧ en' 4 = .ptr (h.length + 1) 0 ∧ h' = h ++ [.box 71 Zs, .box 71 Pl]) ?_ ?_
  · have hf : fillParts Zs [(4, 1, (.fn (.func zzs) [] [])), (5, 1, (.fn (.func zzs) [] [])), (6, 1, (.fn (.func zt) [] [.eptr [.sc (.int .i64 0)] 0]))] = some Pl := rfl
    have hs := stA (h := h) (A := .box 71 Zs) (t := 71) (cs := Zs) (r := []) (A' := .dead) (by simp) (ds := Pl) rfl rfl rfl
    simp only [SQ, SQB, zm, AOp.opds, step, Opd.get, zk, bin, zc, IntKind.signed, zi, zj, zl, zb, unary, ze, zd, za, zo, zr, zh, zf, zg, zp, Cp.isFull, isNil, zq, simprocAttr, -List.reduceReplicate, SQX, V.cells, zn (exactly_r _ _), getParts, hf, List.length_append, List.append_assoc, hs]
  rintro en2 h2 ⟨f1, f2, f3, f4, rfl⟩
  refine zw (fun en' h' => en' 1 = en1 1 ∧ en' 2 = en1 2 ∧ en' 3 = en1 3 ∧ en' 5 = .ptr (h.length + 2) 0 ∧ h' = h ++ [.box 71 Zs, .box 71 Pl, .box 71 Pl]) ?_ ?_
  · have hg : (h ++ [Obj.box 71 Zs, Obj.box 71 Pl])[h.length + 1]? = some (.box 71 Pl) := by simp
    have hs := st3_2a (h := h) (A := .box 71 Zs) (B := .box 71 Pl) (t := 71) (cs := Zs) (ds := Pl) rfl rfl rfl
    simp only [SQ, SQB, zm, AOp.opds, step, Opd.get, zk, bin, zc, IntKind.signed, zi, zj, zl, zb, unary, ze, zd, za, zo, zr, zh, zf, zg, zp, Cp.isFull, isNil, zq, simprocAttr, -List.reduceReplicate, SQX, V.cells, f1, f2, f3, f4, hg, zC, List.length_append, List.append_assoc, hs]
  rintro en3 h3 ⟨g1, g2, g3, g5, rfl⟩
  rw [e1] at g1
  rw [e2] at g2
  rw [e3] at g3
  have c1 : ¬ x.kind = 1 := by omega
  have c2 : ¬ x.kind = 2 := by omega
  have c3 : ¬ x.kind = 3 := by omega
  have c4 : ¬ x.kind = 4 := by omega
  have c5 : ¬ x.kind = 5 := by omega
  have c21 : ¬ x.kind = 21 := by omega
  have c6 : ¬ x.kind = 6 := by omega
  have c7 : ¬ x.kind = 7 := by omega
  have c8 : ¬ x.kind = 8 := by omega
  have c22 : ¬ x.kind = 22 := by omega
  have c9 : ¬ x.kind = 9 := by omega
  have c10 : ¬ x.kind = 10 := by omega
  have c11 : ¬ x.kind = 11 := by omega
  have c12 : ¬ x.kind = 12 := by omega
  have fl1 : zv 1 (List.replicate 2 [V.sc (.int .i64 (0))]) [(0, V.sc (.int .i64 (0))), (1, V.sc (.int .i64 (1)))] = some [[V.sc (.int .i64 (0))], [V.sc (.int .i64 (1))]] := rfl
  have fl2 : zv 1 (List.replicate 2 [V.sc (.int .i64 (0))]) [(0, V.sc (.int .i64 (0))), (1, V.sc (.int .i64 (2)))] = some [[V.sc (.int .i64 (0))], [V.sc (.int .i64 (2))]] := rfl
  have fl3 : zv 1 (List.replicate 4 [V.sc (.int .i64 (0))]) [(0, V.sc (.int .i64 (0))), (1, V.sc (.int .i64 (1))), (2, V.sc (.int .i64 (2))), (3, V.sc (.int .i64 (3)))] = some [[V.sc (.int .i64 (0))], [V.sc (.int .i64 (1))], [V.sc (.int .i64 (2))], [V.sc (.int .i64 (3))]] := rfl
  have fl4 : zv 1 (List.replicate 3 [V.sc (.int .i64 (0))]) [(0, V.sc (.int .i64 (1))), (1, V.sc (.int .i64 (2))), (2, V.sc (.int .i64 (3)))] = some [[V.sc (.int .i64 (1))], [V.sc (.int .i64 (2))], [V.sc (.int .i64 (3))]] := rfl
  simp only [SQ, SQB, zm, AOp.opds, step, Opd.get, zk, bin, zc, IntKind.signed, zi, zj, zl, zb, unary, ze, zd, za, zo, zr, zh, zf, zg, zp, Cp.isFull, isNil, zq, simprocAttr, -List.reduceReplicate, SQX, V.cells, c1, c2, c3, c4, c5, c21, c6, c7, c8, c22, c9, c10, c11, c12, c13, g1, g2, g3, g5, zn (exactly_r _ _), zn (headed_r _ _ _), zn (one_r _ _ _), st3_2s, st3_2f, at3_2, zC, st3_0a, at3_0, Frz_fn0, Frz_fn1, Frz_fn2, zD, kindOk, shC, List.set, getParts, getParts2, fl1, fl2, fl3, fl4, List.map_cons, List.map_nil, Option.bind_some, List.length_cons, List.length_nil, List.take_left]
end
section
set_option maxHeartbeats 8000000 in
theorem of_k14 {base : Nat} {x : Nd} {lv : V} (h : Heap) (hl : LV lv x.l) (c14 : x.kind = 14) : WpF S0 base k_ast_of [.agg (ndC x lv)] h fun v h' => v = .tup [.agg (zD x lv), .bool (kindOk x.kind)] ∧ h' = h := by
  first | refine zu (A := f_ast_of) rfl rfl rfl rfl ?_ | refine zB (A := f_ast_of) rfl rfl rfl rfl ?_
  simp only [f_ast_of, ndC]
  refine zw (fun en' h' => en' 1 = .eptr (ndC x lv) 0 ∧ en' 2 = .ptr h.length 0 ∧ en' 3 = .bool false ∧ h' = h ++ [.box 71 Zs]) ?_ ?_
  · simp only [SQ, SQB, zm, AOp.opds, step, Opd.get, zk, bin, zc, IntKind.signed, zi, zj, zl, zb, unary, ze, zd, za, zo, zr, zh, zf, zg, zp, Cp.isFull, isNil, zq, simprocAttr, -List.reduceReplicate, SQX, V.cells, hl.gr]
  rintro en1 h1 ⟨e1, e2, e3, rfl⟩
  refine zw (fun en' h' => en' 1 = en1 1 ∧ en' 2 = en1 2 ∧ en' 3 = en1 3 ∧ en' 4 = .ptr (h.length + 1) 0 ∧ h' = h ++ [.box 71 Zs, .box 71 Pl]) ?_ ?_
  · have hf : fillParts Zs [(4, 1, (.fn (.func zzs) [] [])), (5, 1, (.fn (.func zzs) [] [])), (6, 1, (.fn (.func zt) [] [.eptr [.sc (.int .i64 0)] 0]))] = some Pl := rfl
    have hs := stA (h := h) (A := .box 71 Zs) (t := 71) (cs := Zs) (r := []) (A' := .dead) (by simp) (ds := Pl) rfl rfl rfl
    simp only [SQ, SQB, zm, AOp.opds, step, Opd.get, zk, bin, zc, IntKind.signed, zi, zj, zl, zb, unary, ze, zd, za, zo, zr, zh, zf, zg, zp, Cp.isFull, isNil, zq, simprocAttr, -List.reduceReplicate, SQX, V.cells, zn (exactly_r _ _), getParts, hf, List.length_append, List.append_assoc, hs]
  rintro en2 h2 ⟨f1, f2, f3, f4, rfl⟩
  refine zw (fun en' h' => en' 1 = en1 1 ∧ en' 2 = en1 2 ∧ en' 3 = en1 3 ∧ en' 5 = .ptr (h.length + 2) 0 ∧ h' = h ++ [.box 71 Zs, .box 71 Pl, .box 71 Pl]) ?_ ?_
  · have hg : (h ++ [Obj.box 71 Zs, Obj.box 71 Pl])[h.length + 1]? = some (.box 71 Pl) := by simp
    have hs := st3_2a (h := h) (A := .box 71 Zs) (B := .box 71 Pl) (t := 71) (cs := Zs) (ds := Pl) rfl rfl rfl
    simp only [SQ, SQB, zm, AOp.opds, step, Opd.get, zk, bin, zc, IntKind.signed, zi, zj, zl, zb, unary, ze, zd, za, zo, zr, zh, zf, zg, zp, Cp.isFull, isNil, zq, simprocAttr, -List.reduceReplicate, SQX, V.cells, f1, f2, f3, f4, hg, zC, List.length_append, List.append_assoc, hs]
  rintro en3 h3 ⟨g1, g2, g3, g5, rfl⟩
  rw [e1] at g1
  rw [e2] at g2
  rw [e3] at g3
  have c1 : ¬ x.kind = 1 := by omega
  have c2 : ¬ x.kind = 2 := by omega
  have c3 : ¬ x.kind = 3 := by omega
  have c4 : ¬ x.kind = 4 := by omega
  have c5 : ¬ x.kind = 5 := by omega
  have c21 : ¬ x.kind = 21 := by omega
  have c6 : ¬ x.kind = 6 := by omega
  have c7 : ¬ x.kind = 7 := by omega
  have c8 : ¬ x.kind = 8 := by omega
  have c22 : ¬ x.kind = 22 := by omega
  have c9 : ¬ x.kind = 9 := by omega
  have c10 : ¬ x.kind = 10 := by omega
  have c11 : ¬ x.kind = 11 := by omega
  have c12 : ¬ x.kind = 12 := by omega
  have c13 : ¬ x.kind = 13 := by omega
  have fl1 : zv 1 (List.replicate 2 [V.sc (.int .i64 (0))]) [(0, V.sc (.int .i64 (0))), (1, V.sc (.int .i64 (1)))] = some [[V.sc (.int .i64 (0))], [V.sc (.int .i64 (1))]] := rfl
  have fl2 : zv 1 (List.replicate 2 [V.sc (.int .i64 (0))]) [(0, V.sc (.int .i64 (0))), (1, V.sc (.int .i64 (2)))] = some [[V.sc (.int .i64 (0))], [V.sc (.int .i64 (2))]] := rfl
  have fl3 : zv 1 (List.replicate 4 [V.sc (.int .i64 (0))]) [(0, V.sc (.int .i64 (0))), (1, V.sc (.int .i64 (1))), (2, V.sc (.int .i64 (2))), (3, V.sc (.int .i64 (3)))] = some [[V.sc (.int .i64 (0))], [V.sc (.int .i64 (1))], [V.sc (.int .i64 (2))], [V.sc (.int .i64 (3))]] := rfl
  have fl4 : zv 1 (List.replicate 3 [V.sc (.int .i64 (0))]) [(0, V.sc (.int .i64 (1))), (1, V.sc (.int .i64 (2))), (2, V.sc (.int .i64 (3)))] = some [[V.sc (.int .i64 (1))], [V.sc (.int .i64 (2))], [V.sc (.int .i64 (3))]] := rfl
  simp only [SQ, SQB, zm, AOp.opds, step, Opd.get, zk, bin, zc, IntKind.signed, zi, zj, zl, zb, unary, ze, zd, za, zo, zr, zh, zf, zg, zp, Cp.isFull, isNil, zq, simprocAttr, -List.reduceReplicate, SQX, V.cells, c1, c2, c3, c4, c5, c21, c6, c7, c8, c22, c9, c10, c11, c12, c13, c14, g1, g2, g3, g5, zn (exactly_r _ _), zn (headed_r _ _ _), zn (one_r _ _ _), st3_2s, st3_2f, at3_2, zC, st3_0a, at3_0, Frz_fn0, Frz_fn1, Frz_fn2, zD, kindOk, shC, List.set, getParts, getParts2, fl1, fl2, fl3, fl4, List.map_cons, List.map_nil, Option.bind_some, List.length_cons, List.length_nil, List.take_left]
set_option maxHeartbeats 8000000 in
theorem of_k15 {base : Nat} {x : Nd} {lv : V} (h : Heap) (hl : LV lv x.l) (c15 : x.kind = 15) : WpF S0 base k_ast_of [.agg (ndC x lv)] h fun v h' => v = .tup [.agg (zD x lv), .bool (kindOk x.kind)] ∧ h' = h := by
  first | refine zu (A := f_ast_of) rfl rfl rfl rfl ?_ | refine zB (A := f_ast_of) rfl rfl rfl rfl ?_
  simp only [f_ast_of, ndC]
  refine zw (fun en' h' => en' 1 = .eptr (ndC x lv) 0 ∧ en' 2 = .ptr h.length 0 ∧ en' 3 = .bool false ∧ h' = h ++ [.box 71 Zs]) ?_ ?_
  · simp only [SQ, SQB, zm, AOp.opds, step, Opd.get, zk, bin, zc, IntKind.signed, zi, zj, zl, zb, unary, ze, zd, za, zo, zr, zh, zf, zg, zp, Cp.isFull, isNil, zq, simprocAttr, -List.reduceReplicate, SQX, V.cells, hl.gr]
  rintro en1 h1 ⟨e1, e2, e3, rfl⟩
  refine zw (fun en' h' => en' 1 = en1 1 ∧ en' 2 = en1 2 ∧ en' 3 = en1 3 ∧ en' 4 = .ptr (h.length + 1) 0 ∧ h' = h ++ [.box 71 Zs, .box 71 Pl]) ?_ ?_
  · have hf : fillParts Zs [(4, 1, (.fn (.func zzs) [] [])), (5, 1, (.fn (.func zzs) [] [])), (6, 1, (.fn (.func zt) [] [.eptr [.sc (.int .i64 0)] 0]))] = some Pl := rfl
    have hs := stA (h := h) (A := .box 71 Zs) (t := 71) (cs := Zs) (r := []) (A' := .dead) (by simp) (ds := Pl) rfl rfl rfl
    simp only [SQ, SQB, zm, AOp.opds, step, Opd.get, zk, bin, zc, IntKind.signed, zi, zj, zl, zb, unary, ze, zd, za, zo, zr, zh, zf, zg, zp, Cp.isFull, isNil, zq, simprocAttr, -List.reduceReplicate, SQX, V.cells, zn (exactly_r _ _), getParts, hf, List.length_append, List.append_assoc, hs]
  rintro en2 h2 ⟨f1, f2, f3, f4, rfl⟩
  refine zw (fun en' h' => en' 1 = en1 1 ∧ en' 2 = en1 2 ∧ en' 3 = en1 3 ∧ en' 5 = .ptr (h.length + 2) 0 ∧ h' = h ++ [.box 71 Zs, .box 71 Pl, .box 71 Pl]) ?_ ?_
  · have hg : (h ++ [Obj.box 71 Zs, Obj.box 71 Pl])[h.length + 1]? = some (.box 71 Pl) := by simp
    have hs := st3_2a (h := h) (A := .box 71 Zs) (B := .box 71 Pl) (t := 71) (cs := Zs) (ds := Pl) rfl rfl rfl
    simp only [SQ, SQB, zm, AOp.opds, step, Opd.get, zk, bin, zc, IntKind.signed, zi, zj, zl, zb, unary, ze, zd, za, zo, zr, zh, zf, zg, zp, Cp.isFull, isNil, zq, simprocAttr, -List.reduceReplicate, SQX, V.cells, f1, f2, f3, f4, hg, zC, List.length_append, List.append_assoc, hs]
  rintro en3 h3 ⟨g1, g2, g3, g5, rfl⟩
  rw [e1] at g1
  rw [e2] at g2
  rw [e3] at g3
  have c1 : ¬ x.kind = 1 := by omega
  have c2 : ¬ x.kind = 2 := by omega
  have c3 : ¬ x.kind = 3 := by omega
  have c4 : ¬ x.kind = 4 := by omega
  have c5 : ¬ x.kind = 5 := by omega
  have c21 : ¬ x.kind = 21 := by omega
  have c6 : ¬ x.kind = 6 := by omega
  have c7 : ¬ x.kind = 7 := by omega
  have c8 : ¬ x.kind = 8 := by omega
  have c22 : ¬ x.kind = 22 := by omega
  have c9 : ¬ x.kind = 9 := by omega
  have c10 : ¬ x.kind = 10 := by omega
  have c11 : ¬ x.kind = 11 := by omega
  have c12 : ¬ x.kind = 12 := by omega
  have c13 : ¬ x.kind = 13 := by omega
  have c14 : ¬ x.kind = 14 := by omega
  have fl1 : zv 1 (List.replicate 2 [V.sc (.int .i64 (0))]) [(0, V.sc (.int .i64 (0))), (1, V.sc (.int .i64 (1)))] = some [[V.sc (.int .i64 (0))], [V.sc (.int .i64 (1))]] := rfl
  have fl2 : zv 1 (List.replicate 2 [V.sc (.int .i64 (0))]) [(0, V.sc (.int .i64 (0))), (1, V.sc (.int .i64 (2)))] = some [[V.sc (.int .i64 (0))], [V.sc (.int .i64 (2))]] := rfl
  have fl3 : zv 1 (List.replicate 4 [V.sc (.int .i64 (0))]) [(0, V.sc (.int .i64 (0))), (1, V.sc (.int .i64 (1))), (2, V.sc (.int .i64 (2))), (3, V.sc (.int .i64 (3)))] = some [[V.sc (.int .i64 (0))], [V.sc (.int .i64 (1))], [V.sc (.int .i64 (2))], [V.sc (.int .i64 (3))]] := rfl
  have fl4 : zv 1 (List.replicate 3 [V.sc (.int .i64 (0))]) [(0, V.sc (.int .i64 (1))), (1, V.sc (.int .i64 (2))), (2, V.sc (.int .i64 (3)))] = some [[V.sc (.int .i64 (1))], [V.sc (.int .i64 (2))], [V.sc (.int .i64 (3))]] := rfl
  simp only [SQ, SQB, zm, AOp.opds, step, Opd.get, zk, bin, zc, IntKind.signed, zi, zj, zl, zb, unary, ze, zd, za, zo, zr, zh, zf, zg, zp, Cp.isFull, isNil, zq, simprocAttr, -List.reduceReplicate, SQX, V.cells, c1, c2, c3, c4, c5, c21, c6, c7, c8, c22, c9, c10, c11, c12, c13, c14, c15, g1, g2, g3, g5, zn (exactly_r _ _), zn (headed_r _ _ _), zn (one_r _ _ _), st3_2s, st3_2f, at3_2, zC, st3_0a, at3_0, Frz_fn0, Frz_fn1, Frz_fn2, zD, kindOk, shC, List.set, getParts, getParts2, fl1, fl2, fl3, fl4, List.map_cons, List.map_nil, Option.bind_some, List.length_cons, List.length_nil, List.take_left]
set_option maxHeartbeats 8000000 in
theorem of_k16 {base : Nat} {x : Nd} {lv : V} (h : Heap) (hl : LV lv x.l) (c16 : x.kind = 16) : WpF S0 base k_ast_of [.agg (ndC x lv)] h fun v h' => v = .tup [.agg (zD x lv), .bool (kindOk x.kind)] ∧ h' = h := by
  first | refine zu (A := f_ast_of) rfl rfl rfl rfl ?_ | refine zB (A := f_ast_of) rfl rfl rfl rfl ?_
  simp only [f_ast_of, ndC]
  refine zw (fun en' h' => en' 1 = .eptr (ndC x lv) 0 ∧ en' 2 = .ptr h.length 0 ∧ en' 3 = .bool false ∧ h' = h ++ [.box 71 Zs]) ?_ ?_
  · simp only [SQ, SQB, zm, AOp.opds, step, Opd.get, zk, bin, zc, IntKind.signed, zi, zj, zl, zb, unary, ze, zd, za, zo, zr, zh, zf, zg, zp, Cp.isFull, isNil, zq, simprocAttr, -List.reduceReplicate, SQX, V.cells, hl.gr]
  rintro en1 h1 ⟨e1, e2, e3, rfl⟩
  refine zw (fun en' h' => en' 1 = en1 1 ∧ en' 2 = en1 2 ∧ en' 3 = en1 3 ∧ en' 4 = .ptr (h.length + 1) 0 ∧ h' = h ++ [.box 71 Zs, .box 71 Pl]) ?_ ?_
  · have hf : fillParts Zs [(4, 1, (.fn (.func zzs) [] [])), (5, 1, (.fn (.func zzs) [] [])), (6, 1, (.fn (.func zt) [] [.eptr [.sc (.int .i64 0)] 0]))] = some Pl := rfl
    have hs := stA (h := h) (A := .box 71 Zs) (t := 71) (cs := Zs) (r := []) (A' := .dead) (by simp) (ds := Pl) rfl rfl rfl
    simp only [SQ, SQB, zm, AOp.opds, step, Opd.get, zk, bin, zc, IntKind.signed, zi, zj, zl, zb, unary, ze, zd, za, zo, zr, zh, zf, zg, zp, Cp.isFull, isNil, zq, simprocAttr, -List.reduceReplicate, SQX, V.cells, zn (exactly_r _ _), getParts, hf, List.length_append, List.append_assoc, hs]
  rintro en2 h2 ⟨f1, f2, f3, f4, rfl⟩
  refine zw (fun en' h' => en' 1 = en1 1 ∧ en' 2 = en1 2 ∧ en' 3 = en1 3 ∧ en' 5 = .ptr (h.length + 2) 0 ∧ h' = h ++ [.box 71 Zs, .box 71 Pl, .box 71 Pl]) ?_ ?_
  · have hg : (h ++ [Obj.box 71 Zs, Obj.box 71 Pl])[h.length + 1]? = some (.box 71 Pl) := by simp
    have hs := st3_2a (h := h) (A := .box 71 Zs) (B := .box 71 Pl) (t := 71) (cs := Zs) (ds := Pl) rfl rfl rfl
    simp only [SQ, SQB, zm, AOp.opds, step, Opd.get, zk, bin, zc, IntKind.signed, zi, zj, zl, zb, unary, ze, zd, za, zo, zr, zh, zf, zg, zp, Cp.isFull, isNil, zq, simprocAttr, -List.reduceReplicate, SQX, V.cells, f1, f2, f3, f4, hg, zC, List.length_append, List.append_assoc, hs]
  rintro en3 h3 ⟨g1, g2, g3, g5, rfl⟩
  rw [e1] at g1
  rw [e2] at g2
  rw [e3] at g3
  have c1 : ¬ x.kind = 1 := by omega
  have c2 : ¬ x.kind = 2 := by omega
  have c3 : ¬ x.kind = 3 := by omega
  have c4 : ¬ x.kind = 4 := by omega
  have c5 : ¬ x.kind = 5 := by omega
  have c21 : ¬ x.kind = 21 := by omega
  have c6 : ¬ x.kind = 6 := by omega
  have c7 : ¬ x.kind = 7 := by omega
  have c8 : ¬ x.kind = 8 := by omega
  have c22 : ¬ x.kind = 22 := by omega
  have c9 : ¬ x.kind = 9 := by omega
  have c10 : ¬ x.kind = 10 := by omega
  have c11 : ¬ x.kind = 11 := by omega
  have c12 : ¬ x.kind = 12 := by omega
  have c13 : ¬ x.kind = 13 := by omega
  have c14 : ¬ x.kind = 14 := by omega
  have c15 : ¬ x.kind = 15 := by omega
  have fl1 : zv 1 (List.replicate 2 [V.sc (.int .i64 (0))]) [(0, V.sc (.int .i64 (0))), (1, V.sc (.int .i64 (1)))] = some [[V.sc (.int .i64 (0))], [V.sc (.int .i64 (1))]] := rfl
  have fl2 : zv 1 (List.replicate 2 [V.sc (.int .i64 (0))]) [(0, V.sc (.int .i64 (0))), (1, V.sc (.int .i64 (2)))] = some [[V.sc (.int .i64 (0))], [V.sc (.int .i64 (2))]] := rfl
  have fl3 : zv 1 (List.replicate 4 [V.sc (.int .i64 (0))]) [(0, V.sc (.int .i64 (0))), (1, V.sc (.int .i64 (1))), (2, V.sc (.int .i64 (2))), (3, V.sc (.int .i64 (3)))] = some [[V.sc (.int .i64 (0))], [V.sc (.int .i64 (1))], [V.sc (.int .i64 (2))], [V.sc (.int .i64 (3))]] := rfl
  have fl4 : zv 1 (List.replicate 3 [V.sc (.int .i64 (0))]) [(0, V.sc (.int .i64 (1))), (1, V.sc (.int .i64 (2))), (2, V.sc (.int .i64 (3)))] = some [[V.sc (.int .i64 (1))], [V.sc (.int .i64 (2))], [V.sc (.int .i64 (3))]] := rfl
  simp only [SQ, SQB, zm, AOp.opds, step, Opd.get, zk, bin, zc, IntKind.signed, zi, zj, zl, zb, unary, ze, zd, za, zo, zr, zh, zf, zg, zp, Cp.isFull, isNil, zq, simprocAttr, -List.reduceReplicate, SQX, V.cells, c1, c2, c3, c4, c5, c21, c6, c7, c8, c22, c9, c10, c11, c12, c13, c14, c15, c16, g1, g2, g3, g5, zn (exactly_r _ _), zn (headed_r _ _ _), zn (one_r _ _ _), st3_2s, st3_2f, at3_2, zC, st3_0a, at3_0, Frz_fn0, Frz_fn1, Frz_fn2, zD, kindOk, shC, List.set, getParts, getParts2, fl1, fl2, fl3, fl4, List.map_cons, List.map_nil, Option.bind_some, List.length_cons, List.length_nil, List.take_left]
end
section
set_option maxHeartbeats 8000000 in
theorem of_k17 {base : Nat} {x : Nd} {lv : V} (h : Heap) (hl : LV lv x.l) (c17 : x.kind = 17) : WpF S0 base k_ast_of [.agg (ndC x lv)] h fun v h' => v = .tup [.agg (zD x lv), .bool (kindOk x.kind)] ∧ h' = h := by
  first | refine zu (A := f_ast_of) rfl rfl rfl rfl ?_ | refine zB (A := f_ast_of) rfl rfl rfl rfl ?_
  simp only [f_ast_of, ndC]
  refine zw (fun en' h' => en' 1 = .eptr (ndC x lv) 0 ∧ en' 2 = .ptr h.length 0 ∧ en' 3 = .bool false ∧ h' = h ++ [.box 71 Zs]) ?_ ?_
  · simp only [SQ, SQB, zm, AOp.opds, step, Opd.get, zk, bin, zc, IntKind.signed, zi, zj, zl, zb, unary, ze, zd, za, zo, zr, zh, zf, zg, zp, Cp.isFull, isNil, zq, simprocAttr, -List.reduceReplicate, SQX, V.cells, hl.gr]
  rintro en1 h1 ⟨e1, e2, e3, rfl⟩
  refine zw (fun en' h' => en' 1 = en1 1 ∧ en' 2 = en1 2 ∧ en' 3 = en1 3 ∧ en' 4 = .ptr (h.length + 1) 0 ∧ h' = h ++ [.box 71 Zs, .box 71 Pl]) ?_ ?_
  · have hf : fillParts Zs [(4, 1, (.fn (.func zzs) [] [])), (5, 1, (.fn (.func zzs) [] [])), (6, 1, (.fn (.func zt) [] [.eptr [.sc (.int .i64 0)] 0]))] = some Pl := rfl
    have hs := stA (h := h) (A := .box 71 Zs) (t := 71) (cs := Zs) (r := []) (A' := .dead) (by simp) (ds := Pl) rfl rfl rfl
    simp only [SQ, SQB, zm, AOp.opds, step, Opd.get, zk, bin, zc, IntKind.signed, zi, zj, zl, zb, unary, ze, zd, za, zo, zr, zh, zf, zg, zp, Cp.isFull, isNil, zq, simprocAttr, -List.reduceReplicate, SQX, V.cells, zn (exactly_r _ _), getParts, hf, List.length_append, List.append_assoc, hs]
  rintro en2 h2 ⟨f1, f2, f3, f4, rfl⟩
  refine zw (fun en' h' => en' 1 = en1 1 ∧ en' 2 = en1 2 ∧ en' 3 = en1 3 ∧ en' 5 = .ptr (h.length + 2) 0 ∧ h' = h ++ [.box 71 Zs, .box 71 Pl, .box 71 Pl]) ?_ ?_
  · have hg : (h ++ [Obj.box 71 Zs, Obj.box 71 Pl])[h.length + 1]? = some (.box 71 Pl) := by simp
    have hs := st3_2a (h := h) (A := .box 71 Zs) (B := .box 71 Pl) (t := 71) (cs := Zs) (ds := Pl) rfl rfl rfl
    simp only [SQ, SQB, zm, AOp.opds, step, Opd.get, zk, bin, zc, IntKind.signed, zi, zj, zl, zb, unary, ze, zd, za, zo, zr, zh, zf, zg, zp, Cp.isFull, isNil, zq, simprocAttr, -List.reduceReplicate, SQX, V.cells, f1, f2, f3, f4, hg, zC, List.length_append, List.append_assoc, hs]
  rintro en3 h3 ⟨g1, g2, g3, g5, rfl⟩
  rw [e1] at g1
  rw [e2] at g2
  rw [e3] at g3
  have c1 : ¬ x.kind = 1 := by omega
  have c2 : ¬ x.kind = 2 := by omega
  have c3 : ¬ x.kind = 3 := by omega
  have c4 : ¬ x.kind = 4 := by omega
  have c5 : ¬ x.kind = 5 := by omega
  have c21 : ¬ x.kind = 21 := by omega
  have c6 : ¬ x.kind = 6 := by omega
  have c7 : ¬ x.kind = 7 := by omega
  have c8 : ¬ x.kind = 8 := by omega
  have c22 : ¬ x.kind = 22 := by omega
  have c9 : ¬ x.kind = 9 := by omega
  have c10 : ¬ x.kind = 10 := by omega
  have c11 : ¬ x.kind = 11 := by omega
  have c12 : ¬ x.kind = 12 := by omega
  have c13 : ¬ x.kind = 13 := by omega
  have c14 : ¬ x.kind = 14 := by omega
  have c15 : ¬ x.kind = 15 := by omega
  have c16 : ¬ x.kind = 16 := by omega
  have fl1 : zv 1 (List.replicate 2 [V.sc (.int .i64 (0))]) [(0, V.sc (.int .i64 (0))), (1, V.sc (.int .i64 (1)))] = some [[V.sc (.int .i64 (0))], [V.sc (.int .i64 (1))]] := rfl
  have fl2 : zv 1 (List.replicate 2 [V.sc (.int .i64 (0))]) [(0, V.sc (.int .i64 (0))), (1, V.sc (.int .i64 (2)))] = some [[V.sc (.int .i64 (0))], [V.sc (.int .i64 (2))]] := rfl
  have fl3 : zv 1 (List.replicate 4 [V.sc (.int .i64 (0))]) [(0, V.sc (.int .i64 (0))), (1, V.sc (.int .i64 (1))), (2, V.sc (.int .i64 (2))), (3, V.sc (.int .i64 (3)))] = some [[V.sc (.int .i64 (0))], [V.sc (.int .i64 (1))], [V.sc (.int .i64 (2))], [V.sc (.int .i64 (3))]] := rfl
  have fl4 : zv 1 (List.replicate 3 [V.sc (.int .i64 (0))]) [(0, V.sc (.int .i64 (1))), (1, V.sc (.int .i64 (2))), (2, V.sc (.int .i64 (3)))] = some [[V.sc (.int .i64 (1))], [V.sc (.int .i64 (2))], [V.sc (.int .i64 (3))]] := rfl
  simp only [SQ, SQB, zm, AOp.opds, step, Opd.get, zk, bin, zc, IntKind.signed, zi, zj, zl, zb, unary, ze, zd, za, zo, zr, zh, zf, zg, zp, Cp.isFull, isNil, zq, simprocAttr, -List.reduceReplicate, SQX, V.cells, c1, c2, c3, c4, c5, c21, c6, c7, c8, c22, c9, c10, c11, c12, c13, c14, c15, c16, c17, g1, g2, g3, g5, zn (exactly_r _ _), zn (headed_r _ _ _), zn (one_r _ _ _), st3_2s, st3_2f, at3_2, zC, st3_0a, at3_0, Frz_fn0, Frz_fn1, Frz_fn2, zD, kindOk, shC, List.set, getParts, getParts2, fl1, fl2, fl3, fl4, List.map_cons, List.map_nil, Option.bind_some, List.length_cons, List.length_nil, List.take_left]
set_option maxHeartbeats 8000000 in
theorem of_k18 {base : Nat} {x : Nd} {lv : V} (h : Heap) (hl : LV lv x.l) (c18 : x.kind = 18) : WpF S0 base k_ast_of [.agg (ndC x lv)] h fun v h' => v = .tup [.agg (zD x lv), .bool (kindOk x.kind)] ∧ h' = h := by
  first | refine zu (A := f_ast_of) rfl rfl rfl rfl ?_ | refine zB (A := f_ast_of) rfl rfl rfl rfl ?_
  simp only [f_ast_of, ndC]
  refine zw (fun en' h' => en' 1 = .eptr (ndC x lv) 0 ∧ en' 2 = .ptr h.length 0 ∧ en' 3 = .bool false ∧ h' = h ++ [.box 71 Zs]) ?_ ?_
  · simp only [SQ, SQB, zm, AOp.opds, step, Opd.get, zk, bin, zc, IntKind.signed, zi, zj, zl, zb, unary, ze, zd, za, zo, zr, zh, zf, zg, zp, Cp.isFull, isNil, zq, simprocAttr, -List.reduceReplicate, SQX, V.cells, hl.gr]
  rintro en1 h1 ⟨e1, e2, e3, rfl⟩
  refine zw (fun en' h' => en' 1 = en1 1 ∧ en' 2 = en1 2 ∧ en' 3 = en1 3 ∧ en' 4 = .ptr (h.length + 1) 0 ∧ h' = h ++ [.box 71 Zs, .box 71 Pl]) ?_ ?_
  · have hf : fillParts Zs [(4, 1, (.fn (.func zzs) [] [])), (5, 1, (.fn (.func zzs) [] [])), (6, 1, (.fn (.func zt) [] [.eptr [.sc (.int .i64 0)] 0]))] = some Pl := rfl
    have hs := stA (h := h) (A := .box 71 Zs) (t := 71) (cs := Zs) (r := []) (A' := .dead) (by simp) (ds := Pl) rfl rfl rfl
    simp only [SQ, SQB, zm, AOp.opds, step, Opd.get, zk, bin, zc, IntKind.signed, zi, zj, zl, zb, unary, ze, zd, za, zo, zr, zh, zf, zg, zp, Cp.isFull, isNil, zq, simprocAttr, -List.reduceReplicate, SQX, V.cells, zn (exactly_r _ _), getParts, hf, List.length_append, List.append_assoc, hs]
  rintro en2 h2 ⟨f1, f2, f3, f4, rfl⟩
  refine zw (fun en' h' => en' 1 = en1 1 ∧ en' 2 = en1 2 ∧ en' 3 = en1 3 ∧ en' 5 = .ptr (h.length + 2) 0 ∧ h' = h ++ [.box 71 Zs, .box 71 Pl, .box 71 Pl]) ?_ ?_
  · have hg : (h ++ [Obj.box 71 Zs, Obj.box 71 Pl])[h.length + 1]? = some (.box 71 Pl) := by simp
    have hs := st3_2a (h := h) (A := .box 71 Zs) (B := .box 71 Pl) (t := 71) (cs := Zs) (ds := Pl) rfl rfl rfl
    simp only [SQ, SQB, zm, AOp.opds, step, Opd.get, zk, bin, zc, IntKind.signed, zi, zj, zl, zb, unary, ze, zd, za, zo, zr, zh, zf, zg, zp, Cp.isFull, isNil, zq, simprocAttr, -List.reduceReplicate, SQX, V.cells, f1, f2, f3, f4, hg, zC, List.length_append, List.append_assoc, hs]
  rintro en3 h3 ⟨g1, g2, g3, g5, rfl⟩
  rw [e1] at g1
  rw [e2] at g2
  rw [e3] at g3
  have c1 : ¬ x.kind = 1 := by omega
  have c2 : ¬ x.kind = 2 := by omega
  have c3 : ¬ x.kind = 3 := by omega
  have c4 : ¬ x.kind = 4 := by omega
  have c5 : ¬ x.kind = 5 := by omega
  have c21 : ¬ x.kind = 21 := by omega
  have c6 : ¬ x.kind = 6 := by omega
  have c7 : ¬ x.kind = 7 := by omega
  have c8 : ¬ x.kind = 8 := by omega
  have c22 : ¬ x.kind = 22 := by omega
  have c9 : ¬ x.kind = 9 := by omega
  have c10 : ¬ x.kind = 10 := by omega
  have c11 : ¬ x.kind = 11 := by omega
  have c12 : ¬ x.kind = 12 := by omega
  have c13 : ¬ x.kind = 13 := by omega
  have c14 : ¬ x.kind = 14 := by omega
  have c15 : ¬ x.kind = 15 := by omega
  have c16 : ¬ x.kind = 16 := by omega
  have c17 : ¬ x.kind = 17 := by omega
  have fl1 : zv 1 (List.replicate 2 [V.sc (.int .i64 (0))]) [(0, V.sc (.int .i64 (0))), (1, V.sc (.int .i64 (1)))] = some [[V.sc (.int .i64 (0))], [V.sc (.int .i64 (1))]] := rfl
  have fl2 : zv 1 (List.replicate 2 [V.sc (.int .i64 (0))]) [(0, V.sc (.int .i64 (0))), (1, V.sc (.int .i64 (2)))] = some [[V.sc (.int .i64 (0))], [V.sc (.int .i64 (2))]] := rfl
  have fl3 : zv 1 (List.replicate 4 [V.sc (.int .i64 (0))]) [(0, V.sc (.int .i64 (0))), (1, V.sc (.int .i64 (1))), (2, V.sc (.int .i64 (2))), (3, V.sc (.int .i64 (3)))] = some [[V.sc (.int .i64 (0))], [V.sc (.int .i64 (1))], [V.sc (.int .i64 (2))], [V.sc (.int .i64 (3))]] := rfl
  have fl4 : zv 1 (List.replicate 3 [V.sc (.int .i64 (0))]) [(0, V.sc (.int .i64 (1))), (1, V.sc (.int .i64 (2))), (2, V.sc (.int .i64 (3)))] = some [[V.sc (.int .i64 (1))], [V.sc (.int .i64 (2))], [V.sc (.int .i64 (3))]] := rfl
  simp only [SQ, SQB, zm, AOp.opds, step, Opd.get, zk, bin, zc, IntKind.signed, zi, zj, zl, zb, unary, ze, zd, za, zo, zr, zh, zf, zg, zp, Cp.isFull, isNil, zq, simprocAttr, -List.reduceReplicate, SQX, V.cells, c1, c2, c3, c4, c5, c21, c6, c7, c8, c22, c9, c10, c11, c12, c13, c14, c15, c16, c17, c18, g1, g2, g3, g5, zn (exactly_r _ _), zn (headed_r _ _ _), zn (one_r _ _ _), st3_2s, st3_2f, at3_2, zC, st3_0a, at3_0, Frz_fn0, Frz_fn1, Frz_fn2, zD, kindOk, shC, List.set, getParts, getParts2, fl1, fl2, fl3, fl4, List.map_cons, List.map_nil, Option.bind_some, List.length_cons, List.length_nil, List.take_left]
set_option maxHeartbeats 8000000 in
theorem of_k19 {base : Nat} {x : Nd} {lv : V} (h : Heap) (hl : LV lv x.l) (c19 : x.kind = 19) : WpF S0 base k_ast_of [.agg (ndC x lv)] h fun v h' => v = .tup [.agg (zD x lv), .bool (kindOk x.kind)] ∧ h' = h := by
  first | refine zu (A := f_ast_of) rfl rfl rfl rfl ?_ | refine zB (A := f_ast_of) rfl rfl rfl rfl ?_
  simp only [f_ast_of, ndC]
  refine zw (fun en' h' => en' 1 = .eptr (ndC x lv) 0 ∧ en' 2 = .ptr h.length 0 ∧ en' 3 = .bool false ∧ h' = h ++ [.box 71 Zs]) ?_ ?_
  · simp only [SQ, SQB, zm, AOp.opds, step, Opd.get, zk, bin, zc, IntKind.signed, zi, zj, zl, zb, unary, ze, zd, za, zo, zr, zh, zf, zg, zp, Cp.isFull, isNil, zq, simprocAttr, -List.reduceReplicate, SQX, V.cells, hl.gr]
  rintro en1 h1 ⟨e1, e2, e3, rfl⟩
  refine zw (fun en' h' => en' 1 = en1 1 ∧ en' 2 = en1 2 ∧ en' 3 = en1 3 ∧ en' 4 = .ptr (h.length + 1) 0 ∧ h' = h ++ [.box 71 Zs, .box 71 Pl]) ?_ ?_
  · have hf : fillParts Zs [(4, 1, (.fn (.func zzs) [] [])), (5, 1, (.fn (.func zzs) [] [])), (6, 1, (.fn (.func zt) [] [.eptr [.sc (.int .i64 0)] 0]))] = some Pl := rfl
    have hs := stA (h := h) (A := .box 71 Zs) (t := 71) (cs := Zs) (r := []) (A' := .dead) (by simp) (ds := Pl) rfl rfl rfl
    simp only [SQ, SQB, zm, AOp.opds, step, Opd.get, zk, bin, zc, IntKind.signed, zi, zj, zl, zb, unary, ze, zd, za, zo, zr, zh, zf, zg, zp, Cp.isFull, isNil, zq, simprocAttr, -List.reduceReplicate, SQX, V.cells, zn (exactly_r _ _), getParts, hf, List.length_append, List.append_assoc, hs]
  rintro en2 h2 ⟨f1, f2, f3, f4, rfl⟩
  refine zw (fun en' h' => en' 1 = en1 1 ∧ en' 2 = en1 2 ∧ en' 3 = en1 3 ∧ en' 5 = .ptr (h.length + 2) 0 ∧ h' = h ++ [.box 71 Zs, .box 71 Pl, .box 71 Pl]) ?_ ?_
  · have hg : (h ++ [Obj.box 71 Zs, Obj.box 71 Pl])[h.length + 1]? = some (.box 71 Pl) := by simp
    have hs := st3_2a (h := h) (A := .box 71 Zs) (B := .box 71 Pl) (t := 71) (cs := Zs) (ds := Pl) rfl rfl rfl
    simp only [SQ, SQB, zm, AOp.opds, step, Opd.get, zk, bin, zc, IntKind.signed, zi, zj, zl, zb, unary, ze, zd, za, zo, zr, zh, zf, zg, zp, Cp.isFull, isNil, zq, simprocAttr, -List.reduceReplicate, SQX, V.cells, f1, f2, f3, f4, hg, zC, List.length_append, List.append_assoc, hs]
  rintro en3 h3 ⟨g1, g2, g3, g5, rfl⟩
  rw [e1] at g1
  rw [e2] at g2
  rw [e3] at g3
  have c1 : ¬ x.kind = 1 := by omega
  have c2 : ¬ x.kind = 2 := by omega
  have c3 : ¬ x.kind = 3 := by omega
  have c4 : ¬ x.kind = 4 := by omega
  have c5 : ¬ x.kind = 5 := by omega
  have c21 : ¬ x.kind = 21 := by omega
  have c6 : ¬ x.kind = 6 := by omega
  have c7 : ¬ x.kind = 7 := by omega
  have c8 : ¬ x.kind = 8 := by omega
  have c22 : ¬ x.kind = 22 := by omega
  have c9 : ¬ x.kind = 9 := by omega
  have c10 : ¬ x.kind = 10 := by omega
  have c11 : ¬ x.kind = 11 := by omega
  have c12 : ¬ x.kind = 12 := by omega
  have c13 : ¬ x.kind = 13 := by omega
  have c14 : ¬ x.kind = 14 := by omega
  have c15 : ¬ x.kind = 15 := by omega
  have c16 : ¬ x.kind = 16 := by omega
  have c17 : ¬ x.kind = 17 := by omega
  have c18 : ¬ x.kind = 18 := by omega
  have fl1 : zv 1 (List.replicate 2 [V.sc (.int .i64 (0))]) [(0, V.sc (.int .i64 (0))), (1, V.sc (.int .i64 (1)))] = some [[V.sc (.int .i64 (0))], [V.sc (.int .i64 (1))]] := rfl
  have fl2 : zv 1 (List.replicate 2 [V.sc (.int .i64 (0))]) [(0, V.sc (.int .i64 (0))), (1, V.sc (.int .i64 (2)))] = some [[V.sc (.int .i64 (0))], [V.sc (.int .i64 (2))]] := rfl
  have fl3 : zv 1 (List.replicate 4 [V.sc (.int .i64 (0))]) [(0, V.sc (.int .i64 (0))), (1, V.sc (.int .i64 (1))), (2, V.sc (.int .i64 (2))), (3, V.sc (.int .i64 (3)))] = some [[V.sc (.int .i64 (0))], [V.sc (.int .i64 (1))], [V.sc (.int .i64 (2))], [V.sc (.int .i64 (3))]] := rfl
  have fl4 : zv 1 (List.replicate 3 [V.sc (.int .i64 (0))]) [(0, V.sc (.int .i64 (1))), (1, V.sc (.int .i64 (2))), (2, V.sc (.int .i64 (3)))] = some [[V.sc (.int .i64 (1))], [V.sc (.int .i64 (2))], [V.sc (.int .i64 (3))]] := rfl
  simp only [SQ, SQB, zm, AOp.opds, step, Opd.get, zk, bin, zc, IntKind.signed, zi, zj, zl, zb, unary, ze, zd, za, zo, zr, zh, zf, zg, zp, Cp.isFull, isNil, zq, simprocAttr, -List.reduceReplicate, SQX, V.cells, c1, c2, c3, c4, c5, c21, c6, c7, c8, c22, c9, c10, c11, c12, c13, c14, c15, c16, c17, c18, c19, g1, g2, g3, g5, zn (exactly_r _ _), zn (headed_r _ _ _), zn (one_r _ _ _), st3_2s, st3_2f, at3_2, zC, st3_0a, at3_0, Frz_fn0, Frz_fn1, Frz_fn2, zD, kindOk, shC, List.set, getParts, getParts2, fl1, fl2, fl3, fl4, List.map_cons, List.map_nil, Option.bind_some, List.length_cons, List.length_nil, List.take_left]
end
end Go.Am
