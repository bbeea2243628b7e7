/- The abstract machine and what is proved in it, part 15. -/
import Derived.Test.YtjjgpjlfnendaaaDoorAm14
set_option linter.unusedVariables false
section
/- Am: a statement is walked. -/
set_option linter.unusedSimpArgs false
namespace Go.Am
abbrev mEntV (p : ByteArray × V) : Value × V := (.string p.1, p.2)
def getV : List (ByteArray × V) → ByteArray → Option V
  | [], _ => none
  | p :: r, t => if (t == p.1) = true then some p.2 else getV r t
def putV : List (ByteArray × V) → ByteArray → V → List (ByteArray × V)
  | [], s, n => [(s, n)]
  | p :: r, s, n => if (s == p.1) = true then (s, n) :: r else p :: putV r s n
theorem getV_put (s t : ByteArray) (n : V) : ∀ ms : List (ByteArray × V), getV (putV ms s n) t = if t = s then some n else getV ms t
  | [] => by simp only [putV, getV, ba_beq]
  | p :: r => by
    have ih := getV_put s t n r
    unfold putV
    by_cases h : s = p.1
    · rw [if_pos ((ba_beq _ _).2 h)]
      simp only [getV, ba_beq]
      by_cases h2 : t = s
      · rw [if_pos h2, if_pos h2]
      · rw [if_neg h2, if_neg h2, if_neg (fun q => h2 (q.trans h.symm))]
    · rw [if_neg (fun q => h ((ba_beq _ _).1 q))]
      simp only [getV, ba_beq, ih]
      by_cases h2 : t = p.1
      · rw [if_pos h2, if_neg (fun q => h (q.symm.trans h2)), if_pos h2]
      · rw [if_neg h2, if_neg h2]
theorem upd_mapV (s : ByteArray) (n : V) : ∀ (ms : List (ByteArray × V)) (pre : List (Value × V)), ((findM (.string s) (ms.map mEntV) pre.length).map fun r => match r with
      | some (i, _) => (pre ++ ms.map mEntV).set i (mEntV (s, n))
      | none => pre ++ ms.map mEntV ++ [mEntV (s, n)]) = some (pre ++ (putV ms s n).map mEntV)
  | [], pre => by simp [findM, putV]
  | p :: r, pre => by
    have ih := upd_mapV s n r (pre ++ [mEntV p])
    unfold putV
    simp only [List.map_cons, findM, keyEq]
    cases h : s == p.1
    · simp only [List.length_append, List.length_cons, List.length_nil, Nat.zero_add, List.append_assoc, List.cons_append, List.nil_append] at ih
      simpa using ih
    · simp [List.set_append_right]
theorem look_mapV (z : V) (t : ByteArray) : ∀ (ms : List (ByteArray × V)) (i : Nat), ∃ b, ((findM (.string t) (ms.map mEntV) i).map fun r => match r with
      | some (_, v) => (v, true)
      | none => (z, false)) = some ((getV ms t).getD z, b)
  | [], i => ⟨false, by simp [findM, getV]⟩
  | p :: r, i => by
    unfold getV
    simp only [List.map_cons, findM, keyEq]
    cases h : t == p.1
    · exact look_mapV z t r (i + 1)
    · exact ⟨true, rfl⟩
section
variable {h : Heap} {ms : List (ByteArray × V)} {b : Nat}
theorem upd_bV {base : Nat} (s : ByteArray) (n : V) (hg : h[b]? = some (.mmap (ms.map mEntV))) (hn : n.cells.all oneCell = true) (hm : mayStore base b [n] = true) : updateV base h .s (.mp b) (.sc (.string s)) n = some (h.set b (.mmap ((putV ms s n).map mEntV))) := by
  have hu := upd_mapV s n ms []
  simp only [List.nil_append, List.length_nil] at hu
  simp only [updateV, keyIs, Option.bind_some, hg]
  rw [if_pos ⟨hn, hm⟩]
  cases hf : findM (.string s) (ms.map mEntV) 0 with
  | none => rw [hf] at hu; simp at hu
  | some r =>
    rw [hf] at hu
    cases r with
    | none => simp only [Option.map_some, Option.some.injEq] at hu ⊢; rw [hu]
    | some p => obtain ⟨i, v⟩ := p; simp only [Option.map_some, Option.some.injEq] at hu ⊢; rw [hu]
theorem look_bV (z : V) (t : ByteArray) (hg : h[b]? = some (.mmap (ms.map mEntV))) : ∃ q, lookupV h .s z (.mp b) (.sc (.string t)) = some ((getV ms t).getD z, q) := by
  simp only [lookupV, keyIs, Option.bind_some, hg]
  exact look_mapV z t ms 0
end
abbrev zN : Nd := .mk 0 ⟨#[]⟩ ⟨#[]⟩ 0 0 0 []
def procN (p : List Nd) (t : ByteArray) : Nd := p.foldl (fun a y => if y.kind = 3 ∧ y.s = t then y else a) zN
def ProcM (p : List Nd) (mp : List (ByteArray × V)) : Prop := ∀ t, ∃ lv, (getV mp t).getD (.agg Zn) = .agg (ndC (procN p t) lv) ∧ LV lv (procN p t).l
theorem ProcM.look {p : List Nd} {mp : List (ByteArray × V)} {h : Heap} {d : Nat} (hp : ProcM p mp) (hd : h[d]? = some (.mmap (mp.map mEntV))) (t : ByteArray) : ∃ lv q, lookupV h .s (.agg Zn) (.mp d) (.sc (.string t)) = some (.agg (ndC (procN p t) lv), q) ∧ LV lv (procN p t).l := by
  obtain ⟨lv, e, hl⟩ := hp t
  obtain ⟨q, e2⟩ := look_bV (.agg Zn) t hd
  exact ⟨lv, q, by rw [e2, e], hl⟩
def headL (K A : ByteArray → Int) (k : Int) (s t : ByteArray) (ln : Int) (len : Nat) : List Ck :=
  (if (n2 k).1 = 0 then [] else needL (K s) (n2 k).1 ln) ++ (if (n2 k).2 = 0 then [] else needL (K t) (n2 k).2 ln) ++ (if k = 18 then [(!decide ((len : Int) = A t), ln, 26)] else [])
mutual
def walkL (K A : ByteArray → Int) : Nd → List Ck
  | .mk k s t _ _ ln l => headL K A k s t ln l.length ++ walkLs K A l
def walkLs (K A : ByteArray → Int) : List Nd → List Ck
  | [] => []
  | y :: r => walkL K A y ++ walkLs K A r
end
theorem walkLs_take {K A : ByteArray → Int} {l : List Nd} {i : Nat} (hi : i < l.length) : walkLs K A (l.take (i + 1)) = walkLs K A (l.take i) ++ walkL K A l[i] := by
  have app : ∀ a b : List Nd, walkLs K A (a ++ b) = walkLs K A a ++ walkLs K A b := by
    intro a b
    induction a with
    | nil => rfl
    | cons y r ih => simp only [List.cons_append, walkLs, ih, List.append_assoc]
  rw [List.take_add_one, List.getElem?_eq_getElem hi, app]
  simp [walkLs]
theorem walkL_eq (K A : ByteArray → Int) (x : Nd) : walkL K A x = headL K A x.kind x.s x.t x.line x.l.length ++ walkLs K A x.l := by cases x; rfl
structure WkH (h : Heap) (b c d1 d2 : Nat) (ms mg : List (ByteArray × Int)) (mp : List (ByteArray × V)) (pc : List V) : Prop where
  hb : h[b]? = some (.mmap (ms.map mEnt))
  hc : h[c]? = some (.box 49 pc)
  hd : h[d1]? = some (.mmap (mg.map mEnt))
  hp : h[d2]? = some (.mmap (mp.map mEntV))
theorem WkH.set {h : Heap} {b c d1 d2 : Nat} {ms mg : List (ByteArray × Int)} {mp : List (ByteArray × V)} {pc : List V} (w : WkH h b c d1 d2 ms mg mp pc) (pc' : List V) : WkH (h.set c (.box 49 pc')) b c d1 d2 ms mg mp pc' :=
  ⟨set_other w.hb w.hc (by simp), set_get w.hc, set_other w.hd w.hc (by simp), set_other w.hp w.hc (by simp)⟩
def WalkOk (p : List Nd) (y : Nd) : Prop := ∀ (base b c d1 d2 : Nat) (cs : List V) (h : Heap) (ms mg : List (ByteArray × Int)) (mp : List (ByteArray × V)) (x : Nd) (lv : V) (e : Er), NdV y cs → WkH h b c d1 d2 ms mg mp (ckC x lv d1 d2 e) → ProcM p mp →
  WpF S0 base k_check_checker_walk [.ptr c 0, .mp b, .agg cs] h fun v h' => v = .tup [] ∧ h' = h.set c (.box 49 (ckC x lv d1 d2 (hitE (walkL (kOf ms mg) (fun t => (procN p t).n) y) e)))
set_option maxHeartbeats 4000000 in
theorem walk_r (p : List Nd) (n : Nat) : ∀ (y : Nd), szN y ≤ n → WalkOk p y := by
  refine n.rec (fun x hn => ?_) (fun n ih y hn => ?_)
  · cases x; simp [szN] at hn
  have hm : ∀ z ∈ y.l, WalkOk p z := fun z hz => ih z (by have := sz_child hz; omega)
  intro base b c d1 d2 cs h ms mg mp x lv e hv hw hpm
  obtain ⟨lw, rfl, hl⟩ := hv.open
  have ll := hl.len
  have lt := hl.lt
  generalize hK : kOf ms mg = K
  generalize hA : (fun t => (procN p t).n) = A
  first | refine WpF_pure (A := f_check_checker_walk) rfl rfl rfl rfl ?_ | refine WpF_imp (A := f_check_checker_walk) rfl rfl rfl rfl ?_
  simp only [f_check_checker_walk]
  refine WpC_cut (fun en' h' => en' 5 = .eptr (ndC y lw) 0 ∧ en' 0 = .ptr c 0 ∧ en' 1 = .mp b ∧ h' = h) ?_ ?_
  · simp only [SQ, SQB, oneCell, AOp.opds, Nat.reduceAdd, step, Opd.get, reduceCtorEq, slcLen, bin, binInt, reduceIte, Nat.reduceEqDiff, IntKind.signed, indexV, asNat?, loadV, cutCells, unary, evRess, evRes1, oneOrTup, wrapV, target, getsO, boundO, sliceV, exTo, Cp.isFull, isNil, moveV, Int.reduceLE, Int.reduceLT, Int.reduceEq, Int.reduceBEq, Int.reduceGT, Int.reduceGE, Nat.reduceLT, Nat.reduceLeDiff, SQX, V.cells, hl.gr]
  rintro en1 h1 ⟨e5, e0, e1, rfl⟩
  refine WpC_cut (fun en' h' => en' 5 = .eptr (ndC y lw) 0 ∧ en' 0 = .ptr c 0 ∧ en' 1 = .mp b ∧ en' 6 = .sc (.int .i64 (n2 y.kind).1) ∧ en' 7 = .sc (.int .i64 (n2 y.kind).2) ∧ h' = h1) ?_ ?_
  · simp only [SQ, SQB, oneCell, AOp.opds, Nat.reduceAdd, step, Opd.get, reduceCtorEq, slcLen, bin, binInt, reduceIte, Nat.reduceEqDiff, IntKind.signed, indexV, asNat?, loadV, cutCells, unary, evRess, evRes1, oneOrTup, wrapV, target, getsO, boundO, sliceV, exTo, Cp.isFull, isNil, moveV, Int.reduceLE, Int.reduceLT, Int.reduceEq, Int.reduceBEq, Int.reduceGT, Int.reduceGE, Nat.reduceLT, Nat.reduceLeDiff, SQX, V.cells, e5, e0, e1, callD_ret (names2_r _ _)]
  rintro en2 h2 ⟨f5, f0, f1, f6, f7, rfl⟩
  refine WpC_cut (fun en' h' => en' 5 = .eptr (ndC y lw) 0 ∧ en' 0 = .ptr c 0 ∧ en' 1 = .mp b ∧ en' 7 = .sc (.int .i64 (n2 y.kind).2) ∧ h' = h2.set c (.box 49 (ckC x lv d1 d2 (hitE (if (n2 y.kind).1 = 0 then [] else needL (K y.s) (n2 y.kind).1 y.line) e)))) ?_ ?_
  · have hne := fun base => need_r (base := base) y.s (n2 y.kind).1 y.line hw.hb hw.hc hw.hd
    rw [hK] at hne
    (simp only [SQ, oneCell, AOp.opds, Nat.reduceAdd, step, Opd.get, reduceCtorEq, slcLen, bin, binInt, reduceIte, Nat.reduceEqDiff, IntKind.signed, indexV, asNat?, loadV, cutCells, unary, evRess, evRes1, oneOrTup, wrapV, target, getsO, boundO, sliceV, exTo, Cp.isFull, isNil, moveV, Int.reduceLE, Int.reduceLT, Int.reduceEq, Int.reduceBEq, Int.reduceGT, Int.reduceGE, Nat.reduceLT, Nat.reduceLeDiff, SQX, V.cells, f5, f0, f1, f6, f7, callD_ret (hne _)]; repeat' ((first | refine condQ_i ?_ ?_ | refine guardQ_t ?_ ?_ | refine guardQ_f ?_ ?_) <;> (intro hb; simp only [SQ, oneCell, AOp.opds, Nat.reduceAdd, step, Opd.get, reduceCtorEq, slcLen, bin, binInt, reduceIte, Nat.reduceEqDiff, IntKind.signed, indexV, asNat?, loadV, cutCells, unary, evRess, evRes1, oneOrTup, wrapV, target, getsO, boundO, sliceV, exTo, Cp.isFull, isNil, moveV, Int.reduceLE, Int.reduceLT, Int.reduceEq, Int.reduceBEq, Int.reduceGT, Int.reduceGE, Nat.reduceLT, Nat.reduceLeDiff, SQX, V.cells, hb, f5, f0, f1, f6, f7, callD_ret (hne _)])))
    · simp_all
    · simp_all [set_same hw.hc, hitE]
  rintro en3 h3 ⟨g5, g0, g1, g7, rfl⟩
  generalize hE1 : hitE (if (n2 y.kind).1 = 0 then [] else needL (K y.s) (n2 y.kind).1 y.line) e = E1
  have hw1 := hw.set (ckC x lv d1 d2 E1)
  refine WpC_cut (fun en' h' => en' 5 = .eptr (ndC y lw) 0 ∧ en' 0 = .ptr c 0 ∧ en' 1 = .mp b ∧ h' = h2.set c (.box 49 (ckC x lv d1 d2 (hitE (if (n2 y.kind).2 = 0 then [] else needL (K y.t) (n2 y.kind).2 y.line) E1)))) ?_ ?_
  · have hne := fun base => need_r (base := base) y.t (n2 y.kind).2 y.line hw1.hb hw1.hc hw1.hd
    rw [hK] at hne
    (simp only [SQ, oneCell, AOp.opds, Nat.reduceAdd, step, Opd.get, reduceCtorEq, slcLen, bin, binInt, reduceIte, Nat.reduceEqDiff, IntKind.signed, indexV, asNat?, loadV, cutCells, unary, evRess, evRes1, oneOrTup, wrapV, target, getsO, boundO, sliceV, exTo, Cp.isFull, isNil, moveV, Int.reduceLE, Int.reduceLT, Int.reduceEq, Int.reduceBEq, Int.reduceGT, Int.reduceGE, Nat.reduceLT, Nat.reduceLeDiff, SQX, V.cells, g5, g0, g1, g7, callD_ret (hne _), List.set_set]; repeat' ((first | refine condQ_i ?_ ?_ | refine guardQ_t ?_ ?_ | refine guardQ_f ?_ ?_) <;> (intro hb; simp only [SQ, oneCell, AOp.opds, Nat.reduceAdd, step, Opd.get, reduceCtorEq, slcLen, bin, binInt, reduceIte, Nat.reduceEqDiff, IntKind.signed, indexV, asNat?, loadV, cutCells, unary, evRess, evRes1, oneOrTup, wrapV, target, getsO, boundO, sliceV, exTo, Cp.isFull, isNil, moveV, Int.reduceLE, Int.reduceLT, Int.reduceEq, Int.reduceBEq, Int.reduceGT, Int.reduceGE, Nat.reduceLT, Nat.reduceLeDiff, SQX, V.cells, hb, g5, g0, g1, g7, callD_ret (hne _), List.set_set])))
    · simp_all
    · simp_all [hitE]
  rintro en4 h4 ⟨i5, i0, i1, rfl⟩
  generalize hE2 : hitE (if (n2 y.kind).2 = 0 then [] else needL (K y.t) (n2 y.kind).2 y.line) E1 = E2
  have hw2 := hw.set (ckC x lv d1 d2 E2)
  refine WpC_cut (fun en' h' => en' 5 = .eptr (ndC y lw) 0 ∧ en' 0 = .ptr c 0 ∧ en' 1 = .mp b ∧ h' = h2.set c (.box 49 (ckC x lv d1 d2 (hitE (headL K A y.kind y.s y.t y.line y.l.length) e)))) ?_ ?_
  · have hwr := fun base is line no => wrong_r (base := base) is line no hw2.hc
    obtain ⟨lp, q, hlk, _⟩ := hpm.look hw2.hp y.t
    have hA2 : (procN p y.t).n = A y.t := by rw [← hA]
    (simp only [SQ, oneCell, AOp.opds, Nat.reduceAdd, step, Opd.get, reduceCtorEq, bin, binInt, reduceIte, Nat.reduceEqDiff, IntKind.signed, indexV, asNat?, loadV, cutCells, unary, evRess, evRes1, oneOrTup, wrapV, target, getsO, boundO, sliceV, exTo, Cp.isFull, isNil, moveV, Int.reduceLE, Int.reduceLT, Int.reduceEq, Int.reduceBEq, Int.reduceGT, Int.reduceGE, Nat.reduceLT, Nat.reduceLeDiff, SQX, V.cells, i5, i0, i1, ll, hw2.hc, hlk, callD_ret (hwr _ _ _ _), List.set_set, hA2]; repeat' ((first | refine condQ_i ?_ ?_ | refine guardQ_t ?_ ?_ | refine guardQ_f ?_ ?_) <;> (intro hb; simp only [SQ, oneCell, AOp.opds, Nat.reduceAdd, step, Opd.get, reduceCtorEq, bin, binInt, reduceIte, Nat.reduceEqDiff, IntKind.signed, indexV, asNat?, loadV, cutCells, unary, evRess, evRes1, oneOrTup, wrapV, target, getsO, boundO, sliceV, exTo, Cp.isFull, isNil, moveV, Int.reduceLE, Int.reduceLT, Int.reduceEq, Int.reduceBEq, Int.reduceGT, Int.reduceGE, Nat.reduceLT, Nat.reduceLeDiff, SQX, V.cells, hb, i5, i0, i1, ll, hw2.hc, hlk, callD_ret (hwr _ _ _ _), List.set_set, hA2])))
    · simp_all [headL, hit_app, hitE]
    · simp_all [headL, hit_app, hitE]
  rintro en5 h5 ⟨j5, j0, j1, rfl⟩
  have hfin := walkL_eq K A y
  generalize headL K A y.kind y.s y.t y.line y.l.length = HL at hfin j5
  simp only [SQ, SQB, oneCell, AOp.opds, Nat.reduceAdd, step, Opd.get, reduceCtorEq, bin, binInt, reduceIte, Nat.reduceEqDiff, IntKind.signed, indexV, asNat?, loadV, cutCells, unary, evRess, evRes1, oneOrTup, wrapV, target, getsO, boundO, sliceV, exTo, Cp.isFull, isNil, moveV, Int.reduceLE, Int.reduceLT, Int.reduceEq, Int.reduceBEq, Int.reduceGT, Int.reduceGE, Nat.reduceLT, Nat.reduceLeDiff, SQX, V.cells, j5, j0, j1, ll]
  refine WpC_loopI (fun k en h' => ∃ i : Nat, k = y.l.length - i ∧ i ≤ y.l.length ∧ en 58 = V.int i ∧ en 57 = V.int y.l.length ∧ en 56 = lw ∧ en 0 = .ptr c 0 ∧ en 1 = .mp b ∧ h' = h2.set c (.box 49 (ckC x lv d1 d2 (hitE (HL ++ walkLs K A (y.l.take i)) e)))) y.l.length ⟨0, rfl, Nat.zero_le _, rfl, rfl, rfl, j0, j1, by simp [walkLs]⟩ ?_
  rintro k en h' ⟨i, rfl, hi, i58, i57, i56, i0, i1, rfl⟩
  by_cases hh : i < y.l.length
  · obtain ⟨r, hr1, hr2⟩ := hl.get hh
    obtain ⟨lv2, rfl, hl2⟩ := hr2.open
    have hwi := fun base => hm y.l[i] (List.getElem_mem hh) base b c d1 d2 _ _ ms mg mp x lv _ hr2 (hw.set (ckC x lv d1 d2 (hitE (HL ++ walkLs K A (y.l.take i)) e))) hpm
    rw [hK, hA] at hwi
    simp only [SQ, SQB, oneCell, AOp.opds, Nat.reduceAdd, step, Opd.get, reduceCtorEq, bin, binInt, reduceIte, Nat.reduceEqDiff, IntKind.signed, asNat?, loadV, cutCells, unary, evRess, evRes1, oneOrTup, wrapV, target, getsO, boundO, sliceV, exTo, Cp.isFull, isNil, moveV, Int.reduceLE, Int.reduceLT, Int.reduceEq, Int.reduceBEq, Int.reduceGT, Int.reduceGE, Nat.reduceLT, Nat.reduceLeDiff, SQX, V.cells, i58, i57, i56, i0, i1, hh, hr1, take7, hl2.gr, callD_ret (hwi _), List.set_set]
    exact ⟨y.l.length - (i + 1), by omega, i + 1, rfl, by omega, by rw [wrap_i64 (by omega) (by omega)]; rfl, by rw [walkLs_take hh, ← List.append_assoc, hit_app (HL ++ walkLs K A (y.l.take i))]⟩
  · have : y.l.take i = y.l := List.take_of_length_le (by omega)
    rw [this, ← hfin]
    simp only [SQ, SQB, oneCell, AOp.opds, Nat.reduceAdd, step, Opd.get, reduceCtorEq, bin, binInt, reduceIte, Nat.reduceEqDiff, IntKind.signed, asNat?, loadV, cutCells, unary, evRess, evRes1, oneOrTup, wrapV, target, getsO, boundO, sliceV, exTo, Cp.isFull, isNil, moveV, Int.reduceLE, Int.reduceLT, Int.reduceEq, Int.reduceBEq, Int.reduceGT, Int.reduceGE, Nat.reduceLT, Nat.reduceLeDiff, SQX, V.cells, i58, i57, i56, i0, i1, hh, set_take]
end Go.Am
end
section
/- Am: what is declared; how many cells and threads. -/
set_option linter.unusedSimpArgs false
namespace Go.Am
def ckH (h : Heap) (c : Nat) (x : Nd) (lv : V) (d1 d2 : Nat) (e : Er) (ms : List (ByteArray × Int)) : Heap := h.set c (.box 49 (ckC x lv d1 d2 e)) ++ [.mmap (ms.map mEnt)]
section
variable {h : Heap} {c : Nat} {x : Nd} {lv : V} {d1 d2 : Nat} {e e' e0 : Er} {ms ms' : List (ByteArray × Int)} {b : Nat} {o : Obj}
theorem ckH_c (hc : h[c]? = some (.box 49 (ckC x lv d1 d2 e0))) : (ckH h c x lv d1 d2 e ms)[c]? = some (.box 49 (ckC x lv d1 d2 e)) := by
  have := (List.getElem?_eq_some_iff.1 hc).1
  unfold ckH
  rw [List.getElem?_append_left (by simpa using this)]
  exact set_get hc
theorem ckH_m : (ckH h c x lv d1 d2 e ms)[h.length]? = some (.mmap (ms.map mEnt)) := by
  unfold ckH
  rw [List.getElem?_append_right (by simp)]
  simp
theorem ckH_o {m : List (Value × V)} (hc : h[c]? = some (.box 49 (ckC x lv d1 d2 e0))) (hb : h[b]? = some (.mmap m)) : (ckH h c x lv d1 d2 e ms)[b]? = some (.mmap m) := by
  have := (List.getElem?_eq_some_iff.1 hb).1
  unfold ckH
  rw [List.getElem?_append_left (by simpa using this)]
  exact set_other hb hc (by simp)
theorem ckH_setc (hc : h[c]? = some (.box 49 (ckC x lv d1 d2 e0))) : (ckH h c x lv d1 d2 e ms).set c (.box 49 (ckC x lv d1 d2 e')) = ckH h c x lv d1 d2 e' ms := by
  have := (List.getElem?_eq_some_iff.1 hc).1
  unfold ckH
  rw [List.set_append_left _ _ (by simpa using this), List.set_set]
theorem ckH_setm : (ckH h c x lv d1 d2 e ms).set h.length (.mmap (ms'.map mEnt)) = ckH h c x lv d1 d2 e ms' := by
  unfold ckH
  rw [List.set_append_right _ _ (by simp)]
  simp
theorem ckH_take : (ckH h c x lv d1 d2 e ms).take h.length = h.set c (.box 49 (ckC x lv d1 d2 e)) := by
  unfold ckH
  rw [List.take_append_of_le_length (by simp), List.take_of_length_le (by simp)]
theorem ckH_new (hc : h[c]? = some (.box 49 (ckC x lv d1 d2 e))) : h ++ [.mmap []] = ckH h c x lv d1 d2 e [] := by
  unfold ckH
  rw [set_same hc]
  rfl
end
def Met (ms : List (ByteArray × Int)) (seen : List ByteArray) : Prop := ∀ s, getI ms s = if inB seen s = true then 1 else 0
theorem inB_nil (s : ByteArray) : inB [] s = false := rfl
theorem inB_cons (t s : ByteArray) (l : List ByteArray) : inB (t :: l) s = (decide (t = s) || inB l s) := by
  simp only [inB, List.any_cons, list_eq]
theorem inB_iff (l : List ByteArray) (s : ByteArray) : inB l s = true ↔ s ∈ l := by
  induction l with
  | nil => simp [inB]
  | cons t l ih => rw [inB_cons, Bool.or_eq_true, decide_eq_true_eq, ih, List.mem_cons, eq_comm]
theorem Met.gt {ms : List (ByteArray × Int)} {seen : List ByteArray} (h : Met ms seen) (s : ByteArray) : decide (0 < getI ms s) = inB seen s := by
  rw [h s]
  cases inB seen s <;> simp
theorem Met.put {ms : List (ByteArray × Int)} {seen : List ByteArray} (h : Met ms seen) (s : ByteArray) : Met (putI ms s 1) (s :: seen) := by
  intro t
  rw [get_put, h t, inB_cons]
  by_cases q : t = s
  · simp [q]
  · simp [q, show ¬ s = t from fun w => q w.symm]
abbrev resT : ByteArray := ⟨#[114, 101, 115, 117, 108, 116]⟩
def dStep (G : ByteArray → Int) (st : List ByteArray × List Ck) (d : Nd) : List ByteArray × List Ck :=
  if d.kind = 7 then st else (d.s :: st.1, st.2 ++ [(inB st.1 d.s || !decide (G d.s = 0), d.line, 24), (decide (d.kind = 6) && (decide (d.n < 1) || decide (250 < d.n)), d.line, 28)])
def declF (G : ByteArray → Int) (y : Nd) (l : List Nd) : List ByteArray × List Ck := l.foldl (dStep G) (if y.kind = 3 then [resT] else [], [])
section
variable {base b c d1 d2 : Nat} {h : Heap} {x : Nd} {lv : V} {e : Er} {mg : List (ByteArray × Int)}
set_option maxHeartbeats 4000000 in
theorem declared_r {y : Nd} {cs : List V} (hv : NdV y cs) (hc : h[c]? = some (.box 49 (ckC x lv d1 d2 e))) (hd : h[d1]? = some (.mmap (mg.map mEnt))) :
    WpF S0 base k_check_checker_declared [.ptr c 0, .agg cs] h fun v h' => v = .tup [] ∧ h' = h.set c (.box 49 (ckC x lv d1 d2 (hitE (declF (getI mg) y y.l).2 e))) := by
  obtain ⟨lw, rfl, hl⟩ := hv.open
  have ll := hl.len
  have lt := hl.lt
  first | refine WpF_pure (A := f_check_checker_declared) rfl rfl rfl rfl ?_ | refine WpF_imp (A := f_check_checker_declared) rfl rfl rfl rfl ?_
  simp only [f_check_checker_declared]
  refine WpC_cut (fun en' h' => en' 3 = .eptr (ndC y lw) 0 ∧ en' 0 = .ptr c 0 ∧ h' = h) ?_ ?_
  · simp only [SQ, SQB, oneCell, AOp.opds, Nat.reduceAdd, step, Opd.get, reduceCtorEq, slcLen, bin, binInt, reduceIte, Nat.reduceEqDiff, IntKind.signed, indexV, asNat?, loadV, cutCells, unary, evRess, evRes1, oneOrTup, wrapV, target, getsO, boundO, sliceV, exTo, Cp.isFull, isNil, moveV, Int.reduceLE, Int.reduceLT, Int.reduceEq, Int.reduceBEq, Int.reduceGT, Int.reduceGE, Nat.reduceLT, Nat.reduceLeDiff, SQX, V.cells, hl.gr]
  rintro en1 h1 ⟨e3, e0, rfl⟩
  refine WpC_cut (fun en' h' => en' 3 = .eptr (ndC y lw) 0 ∧ en' 0 = .ptr c 0 ∧ en' 4 = .mp h1.length ∧ h' = ckH h1 c x lv d1 d2 e []) ?_ ?_
  · simp only [SQ, SQB, oneCell, AOp.opds, Nat.reduceAdd, step, Opd.get, reduceCtorEq, slcLen, bin, binInt, reduceIte, Nat.reduceEqDiff, IntKind.signed, indexV, asNat?, loadV, cutCells, unary, evRess, evRes1, oneOrTup, wrapV, target, getsO, boundO, sliceV, exTo, Cp.isFull, isNil, moveV, Int.reduceLE, Int.reduceLT, Int.reduceEq, Int.reduceBEq, Int.reduceGT, Int.reduceGE, Nat.reduceLT, Nat.reduceLeDiff, SQX, V.cells, e3, e0, ckH_new hc]
  rintro en2 h2 ⟨f3, f0, f4, rfl⟩
  have hup := fun (E : Er) (ms : List (ByteArray × Int)) (s : ByteArray) (n : Int) => upd_b (base := h1.length) s n (ckH_m (h := h1) (c := c) (x := x) (lv := lv) (d1 := d1) (d2 := d2) (e := E) (ms := ms))
  refine WpC_cut (fun en' h' => en' 3 = .eptr (ndC y lw) 0 ∧ en' 0 = .ptr c 0 ∧ en' 4 = .mp h1.length ∧ ∃ ms, Met ms (if y.kind = 3 then [resT] else []) ∧ h' = ckH h1 c x lv d1 d2 e ms) ?_ ?_
  · (simp only [SQ, oneCell, AOp.opds, Nat.reduceAdd, step, Opd.get, reduceCtorEq, slcLen, bin, binInt, reduceIte, Nat.reduceEqDiff, IntKind.signed, indexV, asNat?, loadV, cutCells, unary, evRess, evRes1, oneOrTup, wrapV, target, getsO, boundO, sliceV, exTo, Cp.isFull, isNil, moveV, Int.reduceLE, Int.reduceLT, Int.reduceEq, Int.reduceBEq, Int.reduceGT, Int.reduceGE, Nat.reduceLT, Nat.reduceLeDiff, SQX, V.cells, f3, f0, f4, hup, ckH_setm]; repeat' ((first | refine condQ_i ?_ ?_ | refine guardQ_t ?_ ?_ | refine guardQ_f ?_ ?_) <;> (intro hb; simp only [SQ, oneCell, AOp.opds, Nat.reduceAdd, step, Opd.get, reduceCtorEq, slcLen, bin, binInt, reduceIte, Nat.reduceEqDiff, IntKind.signed, indexV, asNat?, loadV, cutCells, unary, evRess, evRes1, oneOrTup, wrapV, target, getsO, boundO, sliceV, exTo, Cp.isFull, isNil, moveV, Int.reduceLE, Int.reduceLT, Int.reduceEq, Int.reduceBEq, Int.reduceGT, Int.reduceGE, Nat.reduceLT, Nat.reduceLeDiff, SQX, V.cells, hb, f3, f0, f4, hup, ckH_setm])))
    · have := of_decide_eq_true hb
      exact ⟨_, by rw [if_pos this]; exact Met.put (fun s => by simp [getI, inB_nil]) _, rfl⟩
    · have := of_decide_eq_false hb
      exact ⟨_, by rw [if_neg this]; exact fun s => by simp [getI, inB_nil], rfl⟩
  rintro en3 h3 ⟨g3, g0, g4, ms0, hms0, rfl⟩
  simp only [SQ, SQB, oneCell, AOp.opds, Nat.reduceAdd, step, Opd.get, reduceCtorEq, bin, binInt, reduceIte, Nat.reduceEqDiff, IntKind.signed, indexV, asNat?, loadV, cutCells, unary, evRess, evRes1, oneOrTup, wrapV, target, getsO, boundO, sliceV, exTo, Cp.isFull, isNil, moveV, Int.reduceLE, Int.reduceLT, Int.reduceEq, Int.reduceBEq, Int.reduceGT, Int.reduceGE, Nat.reduceLT, Nat.reduceLeDiff, SQX, V.cells, g3, g0, g4, ll]
  refine WpC_loopI (fun k en h' => ∃ i : Nat, k = y.l.length - i ∧ i ≤ y.l.length ∧ en 15 = V.int i ∧ en 14 = V.int y.l.length ∧ en 13 = lw ∧ en 0 = .ptr c 0 ∧ en 4 = .mp h1.length ∧ ∃ ms, h' = ckH h1 c x lv d1 d2 (hitE (declF (getI mg) y (y.l.take i)).2 e) ms ∧ Met ms (declF (getI mg) y (y.l.take i)).1) y.l.length ⟨0, rfl, Nat.zero_le _, rfl, rfl, rfl, g0, g4, ms0, rfl, hms0⟩ ?_
  rintro k en h' ⟨i, rfl, hi, i15, i14, i13, i0, i4, ms, rfl, hms⟩
  by_cases hh : i < y.l.length
  · obtain ⟨r, hr1, hr2⟩ := hl.get hh
    obtain ⟨lv2, rfl, hl2⟩ := hr2.open
    have hf : declF (getI mg) y (y.l.take (i + 1)) = dStep (getI mg) (declF (getI mg) y (y.l.take i)) y.l[i] := foldl_take hh
    generalize declF (getI mg) y (y.l.take i) = st at hf hms
    have hgt := hms.gt y.l[i].s
    obtain ⟨q1, hl1⟩ := look_b y.l[i].s (ckH_m (h := h1) (c := c) (x := x) (lv := lv) (d1 := d1) (d2 := d2) (e := hitE st.2 e) (ms := ms))
    obtain ⟨q2, hl2'⟩ := look_b y.l[i].s (ckH_o (e := hitE st.2 e) (ms := ms) hc hd)
    have hwr := fun base (E : Er) (ms : List (ByteArray × Int)) is line no => wrong_r (base := base) is line no (ckH_c (e := E) (ms := ms) hc)
    have hck := ckH_c (e := hitE st.2 e) (ms := ms) hc
    (simp only [SQ, oneCell, AOp.opds, Nat.reduceAdd, step, Opd.get, reduceCtorEq, bin, binInt, reduceIte, Nat.reduceEqDiff, IntKind.signed, asNat?, loadV, cutCells, unary, evRess, evRes1, oneOrTup, wrapV, target, getsO, boundO, sliceV, exTo, Cp.isFull, isNil, moveV, Int.reduceLE, Int.reduceLT, Int.reduceEq, Int.reduceBEq, Int.reduceGT, Int.reduceGE, Nat.reduceLT, Nat.reduceLeDiff, SQX, V.cells, i15, i14, i13, i0, i4, hh, hr1, take7, hl2.gr, hl1, hl2', hgt, hck, callD_ret (hwr _ _ _ _ _ _), ckH_setc hc, ckH_setm, hup]; repeat' ((first | refine condQ_i ?_ ?_ | refine guardQ_t ?_ ?_ | refine guardQ_f ?_ ?_) <;> (intro hb; simp only [SQ, oneCell, AOp.opds, Nat.reduceAdd, step, Opd.get, reduceCtorEq, bin, binInt, reduceIte, Nat.reduceEqDiff, IntKind.signed, asNat?, loadV, cutCells, unary, evRess, evRes1, oneOrTup, wrapV, target, getsO, boundO, sliceV, exTo, Cp.isFull, isNil, moveV, Int.reduceLE, Int.reduceLT, Int.reduceEq, Int.reduceBEq, Int.reduceGT, Int.reduceGE, Nat.reduceLT, Nat.reduceLeDiff, SQX, V.cells, hb, i15, i14, i13, i0, i4, hh, hr1, take7, hl2.gr, hl1, hl2', hgt, hck, callD_ret (hwr _ _ _ _ _ _), ckH_setc hc, ckH_setm, hup])))
    all_goals refine ⟨y.l.length - (i + 1), by omega, i + 1, rfl, by omega, by rw [wrap_i64 (by omega) (by omega)]; rfl, ?_⟩
    all_goals clear hwr hup hl1 hl2' hck hr1 hr2 hv
    all_goals refine ⟨_, congrArg (fun E => ckH h1 c x lv d1 d2 E _) ?_, ?_⟩
    all_goals first
      | (rw [hf]; simp_all [dStep]; done)
      | (rw [hf]; simp_all [dStep, hms.put]; done)
      | (rw [hf]; simp_all [dStep, hitE, List.foldl_append]; done)
      | (rw [hf]; simp_all [dStep, hitE, List.foldl_append]; rw [decide_eq_false (show ¬ y.l[i].n < 1 by omega)]; rfl)
  · have : y.l.take i = y.l := List.take_of_length_le (by omega)
    rw [this] at hms ⊢
    simp only [SQ, SQB, oneCell, AOp.opds, Nat.reduceAdd, step, Opd.get, reduceCtorEq, bin, binInt, reduceIte, Nat.reduceEqDiff, IntKind.signed, asNat?, loadV, cutCells, unary, evRess, evRes1, oneOrTup, wrapV, target, getsO, boundO, sliceV, exTo, Cp.isFull, isNil, moveV, Int.reduceLE, Int.reduceLT, Int.reduceEq, Int.reduceBEq, Int.reduceGT, Int.reduceGE, Nat.reduceLT, Nat.reduceLeDiff, SQX, V.cells, i15, i14, i13, i0, i4, hh, ckH_take]
def gStepC (st : List ByteArray × Int × List Ck) (y : Nd) : List ByteArray × Int × List Ck :=
  if y.kind = 4 then st else (y.s :: st.1, if y.kind = 2 then st.2.1 + 1 else st.2.1, st.2.2 ++ (inB st.1 y.s, y.line, 24) :: (if y.kind = 2 then [(decide (st.2.1 = 200), y.line, 30)] else []))
def globF (l : List Nd) : List ByteArray × Int × List Ck := l.foldl gStepC ([], 0, [])
theorem globF_le : ∀ (l : List Nd) (st : List ByteArray × Int × List Ck), st.2.1 ≤ (l.foldl gStepC st).2.1 ∧ (l.foldl gStepC st).2.1 ≤ st.2.1 + l.length
  | [], st => by simp
  | y :: r, st => by
    have ih := globF_le r (gStepC st y)
    have : st.2.1 ≤ (gStepC st y).2.1 ∧ (gStepC st y).2.1 ≤ st.2.1 + 1 := by
      unfold gStepC
      split
      · omega
      · dsimp only; split <;> omega
    simp only [List.foldl_cons, List.length_cons]
    omega
set_option maxHeartbeats 4000000 in
theorem globals_r (hl : LV lv x.l) (hc : h[c]? = some (.box 49 (ckC x lv d1 d2 e))) :
    WpF S0 base k_check_checker_globals [.ptr c 0] h fun v h' => v = .tup [] ∧ h' = h.set c (.box 49 (ckC x lv d1 d2 (hitE (globF x.l).2.2 e))) := by
  have ll := hl.len
  have lt := hl.lt
  have hup := fun (E : Er) (ms : List (ByteArray × Int)) (s : ByteArray) (n : Int) => upd_b (base := h.length) s n (ckH_m (h := h) (c := c) (x := x) (lv := lv) (d1 := d1) (d2 := d2) (e := E) (ms := ms))
  first | refine WpF_pure (A := f_check_checker_globals) rfl rfl rfl rfl ?_ | refine WpF_imp (A := f_check_checker_globals) rfl rfl rfl rfl ?_
  simp only [f_check_checker_globals]
  refine WpC_cut (fun en' h' => en' 2 = .mp h.length ∧ en' 0 = .ptr c 0 ∧ h' = ckH h c x lv d1 d2 e []) ?_ ?_
  · simp only [SQ, SQB, oneCell, AOp.opds, Nat.reduceAdd, step, Opd.get, reduceCtorEq, slcLen, bin, binInt, reduceIte, Nat.reduceEqDiff, IntKind.signed, indexV, asNat?, loadV, cutCells, unary, evRess, evRes1, oneOrTup, wrapV, target, getsO, boundO, sliceV, exTo, Cp.isFull, isNil, moveV, Int.reduceLE, Int.reduceLT, Int.reduceEq, Int.reduceBEq, Int.reduceGT, Int.reduceGE, Nat.reduceLT, Nat.reduceLeDiff, SQX, V.cells, ckH_new hc]
  rintro en1 h1 ⟨f2, f0, rfl⟩
  have hc1 := ckH_c (e := e) (ms := []) hc
  simp only [SQ, SQB, oneCell, AOp.opds, Nat.reduceAdd, step, Opd.get, reduceCtorEq, bin, binInt, reduceIte, Nat.reduceEqDiff, IntKind.signed, indexV, asNat?, loadV, cutCells, unary, evRess, evRes1, oneOrTup, wrapV, target, getsO, boundO, sliceV, exTo, Cp.isFull, isNil, moveV, Int.reduceLE, Int.reduceLT, Int.reduceEq, Int.reduceBEq, Int.reduceGT, Int.reduceGE, Nat.reduceLT, Nat.reduceLeDiff, SQX, V.cells, f2, f0, hc1, ll]
  refine WpC_loopI (fun k en h' => ∃ i : Nat, k = x.l.length - i ∧ i ≤ x.l.length ∧ en 13 = V.int i ∧ en 12 = V.int x.l.length ∧ en 11 = lv ∧ en 0 = .ptr c 0 ∧ en 2 = .mp h.length ∧ en 3 = .sc (.int .i64 (globF (x.l.take i)).2.1) ∧ ∃ ms, h' = ckH h c x lv d1 d2 (hitE (globF (x.l.take i)).2.2 e) ms ∧ Met ms (globF (x.l.take i)).1) x.l.length ⟨0, rfl, Nat.zero_le _, rfl, rfl, rfl, f0, f2, rfl, [], rfl, fun s => by simp [getI, globF, inB_nil]⟩ ?_
  rintro k en h' ⟨i, rfl, hi, i13, i12, i11, i0, i2, i3, ms, rfl, hms⟩
  by_cases hh : i < x.l.length
  · obtain ⟨r, hr1, hr2⟩ := hl.get hh
    obtain ⟨lv2, rfl, hl2⟩ := hr2.open
    have hf : globF (x.l.take (i + 1)) = gStepC (globF (x.l.take i)) x.l[i] := foldl_take hh
    have hle := globF_le (x.l.take i) ([], 0, [])
    rw [List.length_take] at hle
    have hle' : 0 ≤ (globF (x.l.take i)).2.1 ∧ (globF (x.l.take i)).2.1 ≤ i := by unfold globF; simp only at hle; omega
    generalize globF (x.l.take i) = st at hf hms hle' i3
    have hgt := hms.gt x.l[i].s
    obtain ⟨q1, hl1⟩ := look_b x.l[i].s (ckH_m (h := h) (c := c) (x := x) (lv := lv) (d1 := d1) (d2 := d2) (e := hitE st.2.2 e) (ms := ms))
    have hwr := fun base (E : Er) (ms : List (ByteArray × Int)) is line no => wrong_r (base := base) is line no (ckH_c (e := E) (ms := ms) hc)
    have hadd : IntKind.i64.wrap (st.2.1 + 1) = st.2.1 + 1 := wrap_i64 (by omega) (by omega)
    (simp only [SQ, oneCell, AOp.opds, Nat.reduceAdd, step, Opd.get, reduceCtorEq, bin, binInt, reduceIte, Nat.reduceEqDiff, IntKind.signed, asNat?, loadV, cutCells, unary, evRess, evRes1, oneOrTup, wrapV, target, getsO, boundO, sliceV, exTo, Cp.isFull, isNil, moveV, Int.reduceLE, Int.reduceLT, Int.reduceEq, Int.reduceBEq, Int.reduceGT, Int.reduceGE, Nat.reduceLT, Nat.reduceLeDiff, SQX, V.cells, i13, i12, i11, i0, i2, i3, hh, hr1, take7, hl2.gr, hl1, hgt, callD_ret (hwr _ _ _ _ _ _), ckH_setc hc, ckH_setm, hup, hadd]; repeat' ((first | refine condQ_i ?_ ?_ | refine guardQ_t ?_ ?_ | refine guardQ_f ?_ ?_) <;> (intro hb; simp only [SQ, oneCell, AOp.opds, Nat.reduceAdd, step, Opd.get, reduceCtorEq, bin, binInt, reduceIte, Nat.reduceEqDiff, IntKind.signed, asNat?, loadV, cutCells, unary, evRess, evRes1, oneOrTup, wrapV, target, getsO, boundO, sliceV, exTo, Cp.isFull, isNil, moveV, Int.reduceLE, Int.reduceLT, Int.reduceEq, Int.reduceBEq, Int.reduceGT, Int.reduceGE, Nat.reduceLT, Nat.reduceLeDiff, SQX, V.cells, hb, i13, i12, i11, i0, i2, i3, hh, hr1, take7, hl2.gr, hl1, hgt, callD_ret (hwr _ _ _ _ _ _), ckH_setc hc, ckH_setm, hup, hadd])))
    all_goals refine ⟨x.l.length - (i + 1), by omega, i + 1, rfl, by omega, by rw [wrap_i64 (by omega) (by omega)]; rfl, ?_⟩
    all_goals clear hwr hup hl1 hr1 hr2
    all_goals refine ⟨by rw [hf]; simp_all [gStepC], _, congrArg (fun E => ckH h c x lv d1 d2 E _) ?_, ?_⟩
    all_goals first
      | (rw [hf]; simp_all [gStepC]; done)
      | (rw [hf]; simp_all [gStepC, hms.put]; done)
      | (rw [hf]; simp_all [gStepC, hitE, List.foldl_append]; done)
  · have : x.l.take i = x.l := List.take_of_length_le (by omega)
    rw [this]
    simp only [SQ, SQB, oneCell, AOp.opds, Nat.reduceAdd, step, Opd.get, reduceCtorEq, bin, binInt, reduceIte, Nat.reduceEqDiff, IntKind.signed, asNat?, loadV, cutCells, unary, evRess, evRes1, oneOrTup, wrapV, target, getsO, boundO, sliceV, exTo, Cp.isFull, isNil, moveV, Int.reduceLE, Int.reduceLT, Int.reduceEq, Int.reduceBEq, Int.reduceGT, Int.reduceGE, Nat.reduceLT, Nat.reduceLeDiff, SQX, V.cells, i13, i12, i11, i0, i2, i3, hh, ckH_take]
def tStep (st : Int × List Ck) (y : Nd) : Int × List Ck := if y.kind = 4 then (st.1 + 1, st.2 ++ [(decide (st.1 = 8), y.line, 29)]) else st
def thrF (l : List Nd) : Int × List Ck := l.foldl tStep (0, [])
def thrL (l : List Nd) : List Ck := (thrF l).2 ++ [(decide ((thrF l).1 = 0), 0, 29)]
theorem thrF_le : ∀ (l : List Nd) (st : Int × List Ck), st.1 ≤ (l.foldl tStep st).1 ∧ (l.foldl tStep st).1 ≤ st.1 + l.length
  | [], st => by simp
  | y :: r, st => by
    have ih := thrF_le r (tStep st y)
    have : st.1 ≤ (tStep st y).1 ∧ (tStep st y).1 ≤ st.1 + 1 := by
      unfold tStep
      split
      · simp only; omega
      · omega
    simp only [List.foldl_cons, List.length_cons]
    omega
set_option maxHeartbeats 4000000 in
theorem threads_r (hl : LV lv x.l) (hc : h[c]? = some (.box 49 (ckC x lv d1 d2 e))) :
    WpF S0 base k_check_checker_threads [.ptr c 0] h fun v h' => v = .tup [] ∧ h' = h.set c (.box 49 (ckC x lv d1 d2 (hitE (thrL x.l) e))) := by
  have ll := hl.len
  have lt := hl.lt
  have hwr := fun base (E : Er) is line no => wrong_r (base := base) is line no (set_get (p := .box 49 (ckC x lv d1 d2 E)) hc)
  first | refine WpF_pure (A := f_check_checker_threads) rfl rfl rfl rfl ?_ | refine WpF_imp (A := f_check_checker_threads) rfl rfl rfl rfl ?_
  simp only [f_check_checker_threads]
  refine WpC_cut (fun en' h' => en' 2 = .sc (.int .i64 0) ∧ en' 0 = .ptr c 0 ∧ h' = h) ?_ ?_
  · simp only [SQ, SQB, oneCell, AOp.opds, Nat.reduceAdd, step, Opd.get, reduceCtorEq, slcLen, bin, binInt, reduceIte, Nat.reduceEqDiff, IntKind.signed, indexV, asNat?, loadV, cutCells, unary, evRess, evRes1, oneOrTup, wrapV, target, getsO, boundO, sliceV, exTo, Cp.isFull, isNil, moveV, Int.reduceLE, Int.reduceLT, Int.reduceEq, Int.reduceBEq, Int.reduceGT, Int.reduceGE, Nat.reduceLT, Nat.reduceLeDiff, SQX, V.cells]
  rintro en1 h1 ⟨f2, f0, rfl⟩
  refine WpC_cut (fun en' h' => en' 0 = .ptr c 0 ∧ en' 2 = .sc (.int .i64 (thrF x.l).1) ∧ h' = h1.set c (.box 49 (ckC x lv d1 d2 (hitE (thrF x.l).2 e)))) ?_ ?_
  · simp only [SQ, SQB, oneCell, AOp.opds, Nat.reduceAdd, step, Opd.get, reduceCtorEq, bin, binInt, reduceIte, Nat.reduceEqDiff, IntKind.signed, indexV, asNat?, loadV, cutCells, unary, evRess, evRes1, oneOrTup, wrapV, target, getsO, boundO, sliceV, exTo, Cp.isFull, isNil, moveV, Int.reduceLE, Int.reduceLT, Int.reduceEq, Int.reduceBEq, Int.reduceGT, Int.reduceGE, Nat.reduceLT, Nat.reduceLeDiff, SQX, V.cells, f2, f0, hc, ll]
    refine WpC_loopI (fun k en h' => ∃ i : Nat, k = x.l.length - i ∧ i ≤ x.l.length ∧ en 11 = V.int i ∧ en 10 = V.int x.l.length ∧ en 9 = lv ∧ en 0 = .ptr c 0 ∧ en 2 = .sc (.int .i64 (thrF (x.l.take i)).1) ∧ h' = h1.set c (.box 49 (ckC x lv d1 d2 (hitE (thrF (x.l.take i)).2 e)))) x.l.length ⟨0, rfl, Nat.zero_le _, rfl, rfl, rfl, f0, f2, (set_same hc).symm⟩ ?_
    rintro k en h' ⟨i, rfl, hi, i11, i10, i9, i0, i2, rfl⟩
    by_cases hh : i < x.l.length
    · obtain ⟨r, hr1, hr2⟩ := hl.get hh
      obtain ⟨lv2, rfl, hl2⟩ := hr2.open
      have hf : thrF (x.l.take (i + 1)) = tStep (thrF (x.l.take i)) x.l[i] := foldl_take hh
      have hle := thrF_le (x.l.take i) (0, [])
      rw [List.length_take] at hle
      have hle' : 0 ≤ (thrF (x.l.take i)).1 ∧ (thrF (x.l.take i)).1 ≤ i := by unfold thrF; simp only at hle; omega
      generalize thrF (x.l.take i) = st at hf hle' i2
      have hadd : IntKind.i64.wrap (st.1 + 1) = st.1 + 1 := wrap_i64 (by omega) (by omega)
      (simp only [SQ, oneCell, AOp.opds, Nat.reduceAdd, step, Opd.get, reduceCtorEq, bin, binInt, reduceIte, Nat.reduceEqDiff, IntKind.signed, asNat?, loadV, cutCells, unary, evRess, evRes1, oneOrTup, wrapV, target, getsO, boundO, sliceV, exTo, Cp.isFull, isNil, moveV, Int.reduceLE, Int.reduceLT, Int.reduceEq, Int.reduceBEq, Int.reduceGT, Int.reduceGE, Nat.reduceLT, Nat.reduceLeDiff, SQX, V.cells, i11, i10, i9, i0, i2, hh, hr1, take7, hl2.gr, callD_ret (hwr _ _ _ _ _), List.set_set, hadd]; repeat' ((first | refine condQ_i ?_ ?_ | refine guardQ_t ?_ ?_ | refine guardQ_f ?_ ?_) <;> (intro hb; simp only [SQ, oneCell, AOp.opds, Nat.reduceAdd, step, Opd.get, reduceCtorEq, bin, binInt, reduceIte, Nat.reduceEqDiff, IntKind.signed, asNat?, loadV, cutCells, unary, evRess, evRes1, oneOrTup, wrapV, target, getsO, boundO, sliceV, exTo, Cp.isFull, isNil, moveV, Int.reduceLE, Int.reduceLT, Int.reduceEq, Int.reduceBEq, Int.reduceGT, Int.reduceGE, Nat.reduceLT, Nat.reduceLeDiff, SQX, V.cells, hb, i11, i10, i9, i0, i2, hh, hr1, take7, hl2.gr, callD_ret (hwr _ _ _ _ _), List.set_set, hadd])))
      all_goals refine ⟨x.l.length - (i + 1), by omega, i + 1, rfl, by omega, by rw [wrap_i64 (by omega) (by omega)]; rfl, ?_⟩
      all_goals clear hwr hr1 hr2
      all_goals (rw [hf]; simp_all [tStep, hitE, List.foldl_append]; done)
    · have : x.l.take i = x.l := List.take_of_length_le (by omega)
      rw [this] at i2 ⊢
      simp only [SQ, SQB, oneCell, AOp.opds, Nat.reduceAdd, step, Opd.get, reduceCtorEq, bin, binInt, reduceIte, Nat.reduceEqDiff, IntKind.signed, asNat?, loadV, cutCells, unary, evRess, evRes1, oneOrTup, wrapV, target, getsO, boundO, sliceV, exTo, Cp.isFull, isNil, moveV, Int.reduceLE, Int.reduceLT, Int.reduceEq, Int.reduceBEq, Int.reduceGT, Int.reduceGE, Nat.reduceLT, Nat.reduceLeDiff, SQX, V.cells, i11, i10, i9, i0, i2, hh]
  rintro en2 h2 ⟨g0, g2, rfl⟩
  (simp only [SQ, oneCell, AOp.opds, Nat.reduceAdd, step, Opd.get, reduceCtorEq, slcLen, bin, binInt, reduceIte, Nat.reduceEqDiff, IntKind.signed, indexV, asNat?, loadV, cutCells, unary, evRess, evRes1, oneOrTup, wrapV, target, getsO, boundO, sliceV, exTo, Cp.isFull, isNil, moveV, Int.reduceLE, Int.reduceLT, Int.reduceEq, Int.reduceBEq, Int.reduceGT, Int.reduceGE, Nat.reduceLT, Nat.reduceLeDiff, SQX, V.cells, g0, g2, callD_ret (hwr _ _ _ _ _), List.set_set, set_take]; repeat' ((first | refine condQ_i ?_ ?_ | refine guardQ_t ?_ ?_ | refine guardQ_f ?_ ?_) <;> (intro hb; simp only [SQ, oneCell, AOp.opds, Nat.reduceAdd, step, Opd.get, reduceCtorEq, slcLen, bin, binInt, reduceIte, Nat.reduceEqDiff, IntKind.signed, indexV, asNat?, loadV, cutCells, unary, evRess, evRes1, oneOrTup, wrapV, target, getsO, boundO, sliceV, exTo, Cp.isFull, isNil, moveV, Int.reduceLE, Int.reduceLT, Int.reduceEq, Int.reduceBEq, Int.reduceGT, Int.reduceGE, Nat.reduceLT, Nat.reduceLeDiff, SQX, V.cells, hb, g0, g2, callD_ret (hwr _ _ _ _ _), List.set_set, set_take])))
  rw [thrL, hit_app]
  rfl
end
end Go.Am
end
section
/- Am: the law's size: what is not large has few nodes. -/
set_option linter.unusedSimpArgs false
namespace Go.Am
mutual
def mxN : Nd → Nat
  | .mk _ s t _ _ _ l => max (max s.size t.size) (mxL l)
def mxL : List Nd → Nat
  | [] => 0
  | x :: r => max (mxN x) (mxL r)
end
theorem mxL_mem : ∀ {l : List Nd} {x : Nd}, x ∈ l → mxN x ≤ mxL l
  | [], x, h => by simp at h
  | y :: r, x, h => by
    simp only [mxL]
    rcases List.mem_cons.1 h with rfl | h
    · omega
    · have := mxL_mem h; omega
theorem mx_child {x y : Nd} (h : y ∈ x.l) : mxN y ≤ mxN x := by
  cases x with
  | mk k s t n o ln l =>
    have := mxL_mem h
    simp only [mxN]
    simp only [Nd.l] at this
    omega
theorem mx_s (x : Nd) : x.s.size ≤ mxN x ∧ x.t.size ≤ mxN x := by
  cases x; simp only [mxN, Nd.s, Nd.t]; omega
theorem szL_eq : ∀ l : List Nd, szL l = (l.map szN).sum
  | [] => rfl
  | x :: r => by simp only [szL, szL_eq r, List.map_cons, List.sum_cons]
theorem szL_take {l : List Nd} {i : Nat} (hi : i < l.length) : szL (l.take (i + 1)) = szL (l.take i) + szN l[i] := by
  rw [szL_eq, szL_eq, List.take_add_one, List.getElem?_eq_getElem hi, List.map_append, List.sum_append]
  simp
theorem szN_eq (x : Nd) : szN x = 1 + szL x.l := by cases x; rfl
def SizeOk (x : Nd) : Prop := ∀ (base : Nat) (cs : List V) (h : Heap) (a d : Int), NdV x cs → mxN x ≤ 2 ^ 63 → 0 ≤ a → a ≤ 1500 → WpF S0 base k_spinnakerlaw25_size [.agg cs, .sc (.int .i64 a), .sc (.int .i64 d)] h fun v h' => (∃ m : Int, v = .sc (.int .i64 m) ∧ (1500 < m ∨ a + szN x ≤ m)) ∧ h' = h
theorem tdiv16 (n : Nat) : (n : Int).tdiv 16 = ((n / 16 : Nat) : Int) := by
  rw [Int.tdiv_eq_ediv_of_nonneg (by omega)]; omega
set_option maxHeartbeats 2000000 in
theorem size_r (n : Nat) : ∀ (x : Nd), szN x ≤ n → SizeOk x := by
  refine n.rec (fun x hn => ?_) (fun n ih x hn => ?_)
  · cases x; simp [szN] at hn
  have hm : ∀ y ∈ x.l, SizeOk y := fun y hy => ih y (by have := sz_child hy; omega)
  intro base cs h a d hv hmx ha ha2
  obtain ⟨lv, rfl, hl⟩ := hv.open
  have ll := hl.len
  have lt := hl.lt
  have hs := mx_s x
  first | refine WpF_pure (A := f_spinnakerlaw25_size) rfl rfl rfl rfl ?_ | refine WpF_imp (A := f_spinnakerlaw25_size) rfl rfl rfl rfl ?_
  simp only [f_spinnakerlaw25_size]
  refine WpC_cut (fun en' h' => en' 3 = .eptr (ndC x lv) 0 ∧ en' 1 = .sc (.int .i64 a) ∧ en' 2 = .sc (.int .i64 d) ∧ h' = h) ?_ ?_
  · simp only [SQ, SQB, oneCell, AOp.opds, Nat.reduceAdd, step, Opd.get, reduceCtorEq, slcLen, bin, binInt, reduceIte, Nat.reduceEqDiff, IntKind.signed, indexV, asNat?, loadV, cutCells, unary, evRess, evRes1, oneOrTup, wrapV, target, getsO, boundO, sliceV, exTo, Cp.isFull, isNil, moveV, Int.reduceLE, Int.reduceLT, Int.reduceEq, Int.reduceBEq, Int.reduceGT, Int.reduceGE, Nat.reduceLT, Nat.reduceLeDiff, SQX, V.cells, hl.gr]
  rintro en1 h1 ⟨e3, e1, e2, rfl⟩
  refine WpC_cut (fun en' h' => en' 3 = .eptr (ndC x lv) 0 ∧ (∃ a2 : Int, en' 1 = .sc (.int .i64 a2) ∧ a + 1 ≤ a2) ∧ en' 2 = .sc (.int .i64 d) ∧ h' = h1) ?_ ?_
  · simp only [SQ, SQB, oneCell, AOp.opds, Nat.reduceAdd, step, Opd.get, reduceCtorEq, slcLen, bin, binInt, reduceIte, Nat.reduceEqDiff, IntKind.signed, indexV, asNat?, loadV, cutCells, unary, evRess, evRes1, oneOrTup, wrapV, target, getsO, boundO, sliceV, exTo, Cp.isFull, isNil, moveV, Int.reduceLE, Int.reduceLT, Int.reduceEq, Int.reduceBEq, Int.reduceGT, Int.reduceGE, Nat.reduceLT, Nat.reduceLeDiff, SQX, V.cells, e1, e2, e3, tdiv16]
    rw [wrap_i64 (n := a + 1) (by omega) (by omega), wrap_i64 (n := ((x.s.size / 16 : Nat) : Int)) (by omega) (by omega), wrap_i64 (n := ((x.t.size / 16 : Nat) : Int)) (by omega) (by omega), wrap_i64 (n := a + 1 + ((x.s.size / 16 : Nat) : Int)) (by omega) (by omega), wrap_i64 (n := a + 1 + ((x.s.size / 16 : Nat) : Int) + ((x.t.size / 16 : Nat) : Int)) (by omega) (by omega)]
    exact ⟨_, rfl, by omega⟩
  rintro en2 h2 ⟨f3, ⟨a2, f1, ha3⟩, f2, rfl⟩
  have hsz := szN_eq x
  by_cases hd : 150 < d
  · simp only [SQ, SQB, oneCell, AOp.opds, Nat.reduceAdd, step, Opd.get, reduceCtorEq, slcLen, bin, binInt, reduceIte, Nat.reduceEqDiff, IntKind.signed, indexV, asNat?, loadV, cutCells, unary, evRess, evRes1, oneOrTup, wrapV, target, getsO, boundO, sliceV, exTo, Cp.isFull, isNil, moveV, Int.reduceLE, Int.reduceLT, Int.reduceEq, Int.reduceBEq, Int.reduceGT, Int.reduceGE, Nat.reduceLT, Nat.reduceLeDiff, SQX, V.cells, f1, f2, f3, hd]
    exact ⟨_, rfl, .inl (by decide)⟩
  simp only [SQ, SQB, oneCell, AOp.opds, Nat.reduceAdd, step, Opd.get, reduceCtorEq, slcLen, bin, binInt, reduceIte, Nat.reduceEqDiff, IntKind.signed, indexV, asNat?, loadV, cutCells, unary, evRess, evRes1, oneOrTup, wrapV, target, getsO, boundO, sliceV, exTo, Cp.isFull, isNil, moveV, Int.reduceLE, Int.reduceLT, Int.reduceEq, Int.reduceBEq, Int.reduceGT, Int.reduceGE, Nat.reduceLT, Nat.reduceLeDiff, SQX, V.cells, f1, f2, f3, hd]
  refine WpC_loopI (fun k en h' => ∃ i : Nat, k = x.l.length - i ∧ i ≤ x.l.length ∧ en 7 = V.int i ∧ en 3 = .eptr (ndC x lv) 0 ∧ (∃ a3 : Int, en 1 = .sc (.int .i64 a3) ∧ 0 ≤ a3 ∧ (1500 < a3 ∨ a + 1 + szL (x.l.take i) ≤ a3)) ∧ en 2 = .sc (.int .i64 d) ∧ h' = h2) x.l.length ⟨0, rfl, Nat.zero_le _, rfl, f3, ⟨_, f1, by omega, .inr (by simp only [List.take_zero, szL]; omega)⟩, f2, rfl⟩ ?_
  rintro k en h' ⟨i, rfl, hi, g7, g3, ⟨a3, g1, hp, hq⟩, g2, rfl⟩
  by_cases h1 : i < x.l.length
  · obtain ⟨r, hr1, hr2⟩ := hl.get h1
    obtain ⟨lv2, rfl, _⟩ := hr2.open
    by_cases h3 : a3 ≤ 1500
    · have hc := mx_child (List.getElem_mem h1)
      obtain ⟨m, hm2, hw⟩ := callD_ex (f := fun n : Int => V.sc (.int .i64 n)) (hm x.l[i] (List.getElem_mem h1) h'.length _ h' a3 (IntKind.i64.wrap (d + 1)) hr2 (by omega) hp h3)
      simp only [SQ, SQB, oneCell, AOp.opds, Nat.reduceAdd, step, Opd.get, reduceCtorEq, bin, binInt, reduceIte, Nat.reduceEqDiff, IntKind.signed, asNat?, loadV, cutCells, unary, evRess, evRes1, oneOrTup, wrapV, target, getsO, boundO, sliceV, exTo, Cp.isFull, isNil, moveV, Int.reduceLE, Int.reduceLT, Int.reduceEq, Int.reduceBEq, Int.reduceGT, Int.reduceGE, Nat.reduceLT, Nat.reduceLeDiff, SQX, V.cells, g7, g3, g1, g2, ll, h1, h3, hr1, take7, callD_ret hw]
      exact ⟨x.l.length - (i + 1), by omega, i + 1, rfl, by omega, by rw [wrap_i64 (by omega) (by omega)]; rfl, ⟨_, rfl, by omega, by rw [szL_take h1]; omega⟩⟩
    · simp only [SQ, SQB, oneCell, AOp.opds, Nat.reduceAdd, step, Opd.get, reduceCtorEq, bin, binInt, reduceIte, Nat.reduceEqDiff, IntKind.signed, asNat?, loadV, cutCells, unary, evRess, evRes1, oneOrTup, wrapV, target, getsO, boundO, sliceV, exTo, Cp.isFull, isNil, moveV, Int.reduceLE, Int.reduceLT, Int.reduceEq, Int.reduceBEq, Int.reduceGT, Int.reduceGE, Nat.reduceLT, Nat.reduceLeDiff, SQX, V.cells, g7, g3, g1, g2, ll, h1, h3]
      exact ⟨_, rfl, by omega⟩
  · have : x.l.take i = x.l := List.take_of_length_le (by omega)
    rw [this] at hq
    simp only [SQ, SQB, oneCell, AOp.opds, Nat.reduceAdd, step, Opd.get, reduceCtorEq, bin, binInt, reduceIte, Nat.reduceEqDiff, IntKind.signed, asNat?, loadV, cutCells, unary, evRess, evRes1, oneOrTup, wrapV, target, getsO, boundO, sliceV, exTo, Cp.isFull, isNil, moveV, Int.reduceLE, Int.reduceLT, Int.reduceEq, Int.reduceBEq, Int.reduceGT, Int.reduceGE, Nat.reduceLT, Nat.reduceLeDiff, SQX, V.cells, g7, g3, g1, g2, ll, h1]
    exact ⟨_, rfl, by omega⟩
theorem large_r {base : Nat} {x : Nd} {cs : List V} (h : Heap) (hv : NdV x cs) (hmx : mxN x ≤ 2 ^ 63) : WpF S0 base k_spinnakerlaw25_large [.agg cs] h fun v h' => (∃ b : Bool, v = .bool b ∧ (b = false → szN x ≤ 1500)) ∧ h' = h := by
  have hsz := fun base h => size_r _ x (Nat.le_refl _) base cs h 0 0 hv hmx (by decide) (by decide)
  obtain ⟨lv, rfl, hl⟩ := hv.open
  first | refine WpF_pure (A := f_spinnakerlaw25_large) rfl rfl rfl rfl ?_ | refine WpF_imp (A := f_spinnakerlaw25_large) rfl rfl rfl rfl ?_
  simp only [f_spinnakerlaw25_large]
  refine WpC_cut (fun en' h' => en' 1 = .eptr (ndC x lv) 0 ∧ h' = h) ?_ ?_
  · simp only [SQ, SQB, oneCell, AOp.opds, Nat.reduceAdd, step, Opd.get, reduceCtorEq, slcLen, bin, binInt, reduceIte, Nat.reduceEqDiff, IntKind.signed, indexV, asNat?, loadV, cutCells, unary, evRess, evRes1, oneOrTup, wrapV, target, getsO, boundO, sliceV, exTo, Cp.isFull, isNil, moveV, Int.reduceLE, Int.reduceLT, Int.reduceEq, Int.reduceBEq, Int.reduceGT, Int.reduceGE, Nat.reduceLT, Nat.reduceLeDiff, SQX, V.cells, hl.gr]
  rintro en1 h1 ⟨e1, rfl⟩
  obtain ⟨m, hm, hw⟩ := callD_ex (f := fun n : Int => V.sc (.int .i64 n)) (hsz h1.length h1)
  simp only [SQ, SQB, oneCell, AOp.opds, Nat.reduceAdd, step, Opd.get, reduceCtorEq, slcLen, bin, binInt, reduceIte, Nat.reduceEqDiff, IntKind.signed, indexV, asNat?, loadV, cutCells, unary, evRess, evRes1, oneOrTup, wrapV, target, getsO, boundO, sliceV, exTo, Cp.isFull, isNil, moveV, Int.reduceLE, Int.reduceLT, Int.reduceEq, Int.reduceBEq, Int.reduceGT, Int.reduceGE, Nat.reduceLT, Nat.reduceLeDiff, SQX, V.cells, e1, take7, callD_ret hw]
  refine ⟨_, rfl, fun q => ?_⟩
  have := of_decide_eq_false q
  omega
end Go.Am
end
section
/- Am: which procs are called. -/
set_option linter.unusedSimpArgs false
namespace Go.Am
def SlN (h : Heap) (v : V) (l : List ByteArray) : Prop :=
  l.length < 2 ^ 62 ∧ ((v = .sc (.slice none 0 0) ∧ l = []) ∨ (∃ ex, v = .slc ex 1 (l.map sv)) ∨ ∃ b e t, v = .hsl b e 0 l.length ∧ h[b]? = some (.row t 1 e (l.map sv)))
theorem SlN.len {h : Heap} {v : V} {l : List ByteArray} (q : SlN h v l) : slcLen v = some l.length := by
  rcases q.2 with ⟨rfl, rfl⟩ | ⟨ex, rfl⟩ | ⟨b, e, t, rfl, _⟩
  · rfl
  · simp [slcLen]
  · rfl
theorem SlN.get {h : Heap} {v : V} {l : List ByteArray} (q : SlN h v l) {i : Nat} (hi : i < l.length) : ∃ a, indexV h 1 i v = some a ∧ loadV h none a = some (.sc (.string l[i])) := by
  rcases q.2 with ⟨rfl, rfl⟩ | ⟨ex, rfl⟩ | ⟨b, e, t, rfl, hb⟩
  · simp at hi
  · exact ⟨.eptr (sv l[i]) 0, by simp [indexV, hi], rfl⟩
  · refine ⟨.rptr b e i 0, by simp [indexV, rowAt, hb, hi], ?_⟩
    simp [loadV, rowAt, hb, hi, cutCells]
section
variable {base : Nat} {h : Heap} {v : V} {l : List ByteArray}
theorem inB_snoc (l : List ByteArray) (t s : ByteArray) : inB (l ++ [t]) s = (inB l s || decide (t = s)) := by
  unfold inB
  rw [List.any_append]
  simp [list_eq]
theorem inB_take {i : Nat} (hi : i < l.length) (s : ByteArray) : inB (l.take (i + 1)) s = (inB (l.take i) s || decide (l[i] = s)) := by
  rw [List.take_add_one, List.getElem?_eq_getElem hi]
  exact inB_snoc _ _ _
theorem inB_at {i : Nat} (hi : i < l.length) : inB l l[i] = true := (inB_iff _ _).2 (List.getElem_mem hi)
set_option maxHeartbeats 1000000 in
theorem inH_r (s : ByteArray) (hv : SlN h v l) : WpF S0 base k_spinnakerref22_In [v, .sc (.string s)] h fun r h' => r = .bool (inB l s) ∧ h' = h := by
  have ll := hv.len
  have lt := hv.1
  first | refine WpF_pure (A := f_spinnakerref22_In) rfl rfl rfl rfl ?_ | refine WpF_imp (A := f_spinnakerref22_In) rfl rfl rfl rfl ?_
  simp only [f_spinnakerref22_In]
  simp only [SQ, SQB, oneCell, AOp.opds, Nat.reduceAdd, step, Opd.get, reduceCtorEq, bin, binInt, reduceIte, Nat.reduceEqDiff, IntKind.signed, indexV, asNat?, loadV, cutCells, unary, evRess, evRes1, oneOrTup, wrapV, target, getsO, boundO, sliceV, exTo, Cp.isFull, isNil, moveV, Int.reduceLE, Int.reduceLT, Int.reduceEq, Int.reduceBEq, Int.reduceGT, Int.reduceGE, Nat.reduceLT, Nat.reduceLeDiff, SQX, V.cells]
  refine WpC_loopI (fun k en h' => ∃ i : Nat, k = l.length - i ∧ i ≤ l.length ∧ en 5 = V.int i ∧ en 0 = v ∧ en 1 = .sc (.string s) ∧ inB (l.take i) s = false ∧ h' = h) l.length ⟨0, rfl, Nat.zero_le _, rfl, rfl, rfl, rfl, rfl⟩ ?_
  rintro k en h' ⟨i, rfl, hi, e5, e0, e1, hno, rfl⟩
  by_cases h1 : i < l.length
  · obtain ⟨a, ha, hb⟩ := hv.get h1
    have hin := inB_take h1 s
    (simp only [SQ, oneCell, AOp.opds, Nat.reduceAdd, step, Opd.get, reduceCtorEq, bin, binInt, reduceIte, Nat.reduceEqDiff, IntKind.signed, asNat?, cutCells, unary, evRess, evRes1, oneOrTup, wrapV, target, getsO, boundO, sliceV, exTo, Cp.isFull, isNil, moveV, Int.reduceLE, Int.reduceLT, Int.reduceEq, Int.reduceBEq, Int.reduceGT, Int.reduceGE, Nat.reduceLT, Nat.reduceLeDiff, SQX, V.cells, e5, e0, e1, h1, ll, ha, hb, binStr, list_eq]; repeat' ((first | refine condQ_i ?_ ?_ | refine guardQ_t ?_ ?_ | refine guardQ_f ?_ ?_) <;> (intro hb; simp only [SQ, oneCell, AOp.opds, Nat.reduceAdd, step, Opd.get, reduceCtorEq, bin, binInt, reduceIte, Nat.reduceEqDiff, IntKind.signed, asNat?, cutCells, unary, evRess, evRes1, oneOrTup, wrapV, target, getsO, boundO, sliceV, exTo, Cp.isFull, isNil, moveV, Int.reduceLE, Int.reduceLT, Int.reduceEq, Int.reduceBEq, Int.reduceGT, Int.reduceGE, Nat.reduceLT, Nat.reduceLeDiff, SQX, V.cells, hb, e5, e0, e1, h1, ll, ha, hb, binStr, list_eq])))
    · have := of_decide_eq_true (by assumption)
      rw [← this, inB_at h1]
    · refine ⟨l.length - (i + 1), by omega, i + 1, rfl, by omega, by rw [wrap_i64 (by omega) (by omega)]; rfl, ?_⟩
      simp_all
  · simp only [SQ, SQB, oneCell, AOp.opds, Nat.reduceAdd, step, Opd.get, reduceCtorEq, bin, binInt, reduceIte, Nat.reduceEqDiff, IntKind.signed, asNat?, cutCells, unary, evRess, evRes1, oneOrTup, wrapV, target, getsO, boundO, sliceV, exTo, Cp.isFull, isNil, moveV, Int.reduceLE, Int.reduceLT, Int.reduceEq, Int.reduceBEq, Int.reduceGT, Int.reduceGE, Nat.reduceLT, Nat.reduceLeDiff, SQX, V.cells, e5, e0, h1, ll]
    have : l.take i = l := List.take_of_length_le (by omega)
    rw [← hno, this]
set_option maxHeartbeats 1000000 in
theorem indexH_r (s : ByteArray) (hv : SlN h v l) : WpF S0 base k_slices_Indexstringstring [v, .sc (.string s)] h fun r h' => (∃ n : Int, r = .sc (.int .i64 n) ∧ (decide (0 ≤ n)) = inB l s) ∧ h' = h := by
  have ll := hv.len
  have lt := hv.1
  first | refine WpF_pure (A := f_slices_Indexstringstring) rfl rfl rfl rfl ?_ | refine WpF_imp (A := f_slices_Indexstringstring) rfl rfl rfl rfl ?_
  simp only [f_slices_Indexstringstring]
  simp only [SQ, SQB, oneCell, AOp.opds, Nat.reduceAdd, step, Opd.get, reduceCtorEq, bin, binInt, reduceIte, Nat.reduceEqDiff, IntKind.signed, indexV, asNat?, loadV, cutCells, unary, evRess, evRes1, oneOrTup, wrapV, target, getsO, boundO, sliceV, exTo, Cp.isFull, isNil, moveV, Int.reduceLE, Int.reduceLT, Int.reduceEq, Int.reduceBEq, Int.reduceGT, Int.reduceGE, Nat.reduceLT, Nat.reduceLeDiff, SQX, V.cells, ll]
  refine WpC_loopI (fun k en h' => ∃ i : Nat, k = l.length - i ∧ i ≤ l.length ∧ en 8 = V.int i ∧ en 7 = V.int l.length ∧ en 0 = v ∧ en 1 = .sc (.string s) ∧ inB (l.take i) s = false ∧ h' = h) l.length ⟨0, rfl, Nat.zero_le _, rfl, rfl, rfl, rfl, rfl, rfl⟩ ?_
  rintro k en h' ⟨i, rfl, hi, e8, e7, e0, e1, hno, rfl⟩
  by_cases h1 : i < l.length
  · obtain ⟨a, ha, hb⟩ := hv.get h1
    have hin := inB_take h1 s
    (simp only [SQ, oneCell, AOp.opds, Nat.reduceAdd, step, Opd.get, reduceCtorEq, bin, binInt, reduceIte, Nat.reduceEqDiff, IntKind.signed, asNat?, cutCells, unary, evRess, evRes1, oneOrTup, wrapV, target, getsO, boundO, sliceV, exTo, Cp.isFull, isNil, moveV, Int.reduceLE, Int.reduceLT, Int.reduceEq, Int.reduceBEq, Int.reduceGT, Int.reduceGE, Nat.reduceLT, Nat.reduceLeDiff, SQX, V.cells, e8, e7, e0, e1, h1, ha, hb, binStr, list_eq]; repeat' ((first | refine condQ_i ?_ ?_ | refine guardQ_t ?_ ?_ | refine guardQ_f ?_ ?_) <;> (intro hb; simp only [SQ, oneCell, AOp.opds, Nat.reduceAdd, step, Opd.get, reduceCtorEq, bin, binInt, reduceIte, Nat.reduceEqDiff, IntKind.signed, asNat?, cutCells, unary, evRess, evRes1, oneOrTup, wrapV, target, getsO, boundO, sliceV, exTo, Cp.isFull, isNil, moveV, Int.reduceLE, Int.reduceLT, Int.reduceEq, Int.reduceBEq, Int.reduceGT, Int.reduceGE, Nat.reduceLT, Nat.reduceLeDiff, SQX, V.cells, hb, e8, e7, e0, e1, h1, ha, hb, binStr, list_eq])))
    · have := of_decide_eq_true (by assumption)
      subst this
      rw [inB_at h1]
      exact ⟨i, rfl, by simp⟩
    · refine ⟨l.length - (i + 1), by omega, i + 1, rfl, by omega, by rw [wrap_i64 (by omega) (by omega)]; rfl, ?_⟩
      rw [hin, hno]
      have := of_decide_eq_false (by assumption)
      simpa using fun q => this q.symm
  · simp only [SQ, SQB, oneCell, AOp.opds, Nat.reduceAdd, step, Opd.get, reduceCtorEq, bin, binInt, reduceIte, Nat.reduceEqDiff, IntKind.signed, asNat?, cutCells, unary, evRess, evRes1, oneOrTup, wrapV, target, getsO, boundO, sliceV, exTo, Cp.isFull, isNil, moveV, Int.reduceLE, Int.reduceLT, Int.reduceEq, Int.reduceBEq, Int.reduceGT, Int.reduceGE, Nat.reduceLT, Nat.reduceLeDiff, SQX, V.cells, e8, e7, e0, h1]
    have : l.take i = l := List.take_of_length_le (by omega)
    rw [this] at hno
    rw [hno]
    exact ⟨-1, rfl, by decide⟩
theorem containsH_r (s : ByteArray) (hv : SlN h v l) : WpF S0 base k_slices_Containsstringstring [v, .sc (.string s)] h fun r h' => r = .bool (inB l s) ∧ h' = h := by
  first | refine WpF_pure (A := f_slices_Containsstringstring) rfl rfl rfl rfl ?_ | refine WpF_imp (A := f_slices_Containsstringstring) rfl rfl rfl rfl ?_
  obtain ⟨n, hn, hw⟩ := callD_ex (indexH_r (base := h.length) s hv)
  simp only [f_slices_Containsstringstring]
  simp only [SQ, SQB, oneCell, AOp.opds, Nat.reduceAdd, step, Opd.get, reduceCtorEq, slcLen, bin, binInt, reduceIte, Nat.reduceEqDiff, IntKind.signed, indexV, asNat?, loadV, cutCells, unary, evRess, evRes1, oneOrTup, wrapV, target, getsO, boundO, sliceV, exTo, Cp.isFull, isNil, moveV, Int.reduceLE, Int.reduceLT, Int.reduceEq, Int.reduceBEq, Int.reduceGT, Int.reduceGE, Nat.reduceLT, Nat.reduceLeDiff, SQX, V.cells, callD_ret hw, hn]
end
mutual
def callsN : Nd → List ByteArray → List ByteArray
  | .mk k _ t _ _ _ l, out => callsL l (if k = 18 ∧ inB out t = false then out ++ [t] else out)
def callsL : List Nd → List ByteArray → List ByteArray
  | [], out => out
  | y :: r, out => callsL r (callsN y out)
end
theorem callsN_eq (y : Nd) (out : List ByteArray) : callsN y out = callsL y.l (if y.kind = 18 ∧ inB out y.t = false then out ++ [y.t] else out) := by cases y; rfl
theorem callsL_fold : ∀ (l : List Nd) (out : List ByteArray), callsL l out = l.foldl (fun o y => callsN y o) out
  | [], _ => rfl
  | y :: r, out => by simp only [callsL, List.foldl_cons, callsL_fold r]
theorem callsL_take {l : List Nd} {i : Nat} (hi : i < l.length) (out : List ByteArray) : callsL (l.take (i + 1)) out = callsN l[i] (callsL (l.take i) out) := by
  rw [callsL_fold, callsL_fold, foldl_take hi]
mutual
theorem callsN_len : ∀ (y : Nd) (out : List ByteArray), (callsN y out).length ≤ out.length + szN y
  | .mk k s t n o ln l, out => by
    have := callsL_len l (if k = 18 ∧ inB out t = false then out ++ [t] else out)
    simp only [callsN, szN]
    have h2 : (if k = 18 ∧ inB out t = false then out ++ [t] else out).length ≤ out.length + 1 := by split <;> simp
    omega
theorem callsL_len : ∀ (l : List Nd) (out : List ByteArray), (callsL l out).length ≤ out.length + szL l
  | [], out => by simp [callsL, szL]
  | y :: r, out => by
    have h1 := callsL_len r (callsN y out)
    have h2 := callsN_len y out
    simp only [callsL, szL]
    omega
end
def OwnAt (h : Heap) (v : V) (l : List ByteArray) (H : Heap) : Prop := (v = .sc (.slice none 0 0) ∧ l = [] ∧ H = h) ∨ ∃ e, v = .hsl h.length e 0 l.length ∧ H = h ++ [.row 9 1 e (l.map sv)]
theorem OwnAt.sl {h : Heap} {v : V} {l : List ByteArray} {H : Heap} (q : OwnAt h v l H) (hl : l.length < 2 ^ 62) : SlN H v l := by
  refine ⟨hl, ?_⟩
  rcases q with ⟨rfl, rfl, rfl⟩ | ⟨e, rfl, rfl⟩
  · exact .inl ⟨rfl, rfl⟩
  · exact .inr (.inr ⟨_, _, 9, rfl, by simp⟩)
theorem OwnAt.app {base : Nat} {h : Heap} {v : V} {l : List ByteArray} {H : Heap} (q : OwnAt h v l H) (s : ByteArray) (hl : l.length + 1 ≤ lim) : ∃ v' H', appendV base H 9 1 v [[.sc (.string s)]] = some (v', H') ∧ OwnAt h v' (l ++ [s]) H' := by
  rcases q with ⟨rfl, rfl, rfl⟩ | ⟨e, rfl, rfl⟩
  · refine ⟨_, _, ?_, .inr ⟨0, rfl, rfl⟩⟩
    simp [appendV, lim, newOk, oneCell]
  · refine ⟨_, _, ?_, .inr ⟨e + 1, rfl, rfl⟩⟩
    have : List.take l.length (List.map sv l) = List.map sv l := List.take_of_length_le (by simp)
    simp [appendV, newOk, oneCell, mayStore, refsLts, refsLt, hl, this]
def CallsOk (f : FuncId) (y : Nd) : Prop := ∀ (base : Nat) (cs : List V) (h H : Heap) (v : V) (l : List ByteArray), NdV y cs → OwnAt h v l H → l.length + szN y ≤ lim → WpF S0 base f [.agg cs, v] H fun v' H' => OwnAt h v' (callsN y l) H'
theorem take1 {a : List V} : [a].take 1 = [a] := rfl
set_option maxHeartbeats 2000000 in
theorem calls_r (n : Nat) : ∀ (y : Nd), szN y ≤ n → CallsOk k_check_calls y := by
  refine n.rec (fun x hn => ?_) (fun n ih y hn => ?_)
  · cases x; simp [szN] at hn
  have hm : ∀ z ∈ y.l, CallsOk k_check_calls z := fun z hz => ih z (by have := sz_child hz; omega)
  intro base cs h H v l hv hown hlim
  obtain ⟨lw, rfl, hl⟩ := hv.open
  have ll := hl.len
  have lt := hl.lt
  have hsz := szN_eq y
  have hlm : lim = 2 ^ 36 := rfl
  first | refine WpF_pure (A := f_check_calls) rfl rfl rfl rfl ?_ | refine WpF_imp (A := f_check_calls) rfl rfl rfl rfl ?_
  simp only [f_check_calls]
  refine WpC_cut (fun en' h' => en' 2 = .eptr (ndC y lw) 0 ∧ en' 1 = v ∧ h' = H) ?_ ?_
  · simp only [SQ, SQB, oneCell, AOp.opds, Nat.reduceAdd, step, Opd.get, reduceCtorEq, slcLen, bin, binInt, reduceIte, Nat.reduceEqDiff, IntKind.signed, indexV, asNat?, loadV, cutCells, unary, evRess, evRes1, oneOrTup, wrapV, target, getsO, boundO, sliceV, exTo, Cp.isFull, isNil, moveV, Int.reduceLE, Int.reduceLT, Int.reduceEq, Int.reduceBEq, Int.reduceGT, Int.reduceGE, Nat.reduceLT, Nat.reduceLeDiff, SQX, V.cells, hl.gr]
  rintro en1 h1 ⟨e2, e1, rfl⟩
  refine WpC_cut (fun en' h' => en' 2 = .eptr (ndC y lw) 0 ∧ OwnAt h (en' 1) (if y.kind = 18 ∧ inB l y.t = false then l ++ [y.t] else l) h') ?_ ?_
  · have hc := fun base => containsH_r (base := base) y.t (hown.sl (by omega))
    obtain ⟨v', H', ha, hown'⟩ := hown.app (base := base) y.t (by omega)
    (simp only [SQ, oneCell, AOp.opds, Nat.reduceAdd, step, Opd.get, reduceCtorEq, slcLen, bin, binInt, reduceIte, Nat.reduceEqDiff, IntKind.signed, indexV, asNat?, loadV, cutCells, unary, evRess, evRes1, oneOrTup, wrapV, target, getsO, boundO, sliceV, exTo, Cp.isFull, isNil, moveV, Int.reduceLE, Int.reduceLT, Int.reduceEq, Int.reduceBEq, Int.reduceGT, Int.reduceGE, Nat.reduceLT, Nat.reduceLeDiff, SQX, V.cells, e2, e1, callD_ret (hc _), getParts2, fillRows, List.replicate, ground, srcRows, elems, ha, List.set_cons_zero, List.isEmpty_cons]; repeat' ((first | refine condQ_i ?_ ?_ | refine guardQ_t ?_ ?_ | refine guardQ_f ?_ ?_) <;> (intro hb; simp only [SQ, oneCell, AOp.opds, Nat.reduceAdd, step, Opd.get, reduceCtorEq, slcLen, bin, binInt, reduceIte, Nat.reduceEqDiff, IntKind.signed, indexV, asNat?, loadV, cutCells, unary, evRess, evRes1, oneOrTup, wrapV, target, getsO, boundO, sliceV, exTo, Cp.isFull, isNil, moveV, Int.reduceLE, Int.reduceLT, Int.reduceEq, Int.reduceBEq, Int.reduceGT, Int.reduceGE, Nat.reduceLT, Nat.reduceLeDiff, SQX, V.cells, hb, e2, e1, callD_ret (hc _), getParts2, fillRows, List.replicate, ground, srcRows, elems, ha, List.set_cons_zero, List.isEmpty_cons])))
    all_goals simp_all
  rintro en2 h2 ⟨f2, f1⟩
  have hlen : (if y.kind = 18 ∧ inB l y.t = false then l ++ [y.t] else l).length ≤ l.length + 1 := by split <;> simp
  have hfin := callsN_eq y l
  generalize (if y.kind = 18 ∧ inB l y.t = false then l ++ [y.t] else l) = l2 at f1 hlen hfin
  simp only [SQ, SQB, oneCell, AOp.opds, Nat.reduceAdd, step, Opd.get, reduceCtorEq, bin, binInt, reduceIte, Nat.reduceEqDiff, IntKind.signed, indexV, asNat?, loadV, cutCells, unary, evRess, evRes1, oneOrTup, wrapV, target, getsO, boundO, sliceV, exTo, Cp.isFull, isNil, moveV, Int.reduceLE, Int.reduceLT, Int.reduceEq, Int.reduceBEq, Int.reduceGT, Int.reduceGE, Nat.reduceLT, Nat.reduceLeDiff, SQX, V.cells, f2, ll]
  refine WpC_loopI (fun k en h' => ∃ i : Nat, k = y.l.length - i ∧ i ≤ y.l.length ∧ en 25 = V.int i ∧ en 24 = V.int y.l.length ∧ en 23 = lw ∧ OwnAt h (en 1) (callsL (y.l.take i) l2) h') y.l.length ⟨0, rfl, Nat.zero_le _, rfl, rfl, rfl, f1⟩ ?_
  rintro k en h' ⟨i, rfl, hi, i25, i24, i23, i1⟩
  by_cases hh : i < y.l.length
  · obtain ⟨r, hr1, hr2⟩ := hl.get hh
    obtain ⟨lv2, rfl, hl2⟩ := hr2.open
    have hlen2 := callsL_len (y.l.take i) l2
    have hlen3 := szL_take hh
    have hlen4 : szL (y.l.take (i + 1)) ≤ szL y.l := by
      rw [szL_eq, szL_eq]
      conv => rhs; rw [← List.take_append_drop (i + 1) y.l]
      rw [List.map_append, List.sum_append]; omega
    have hwi := fun base => hm y.l[i] (List.getElem_mem hh) base _ h h' (en 1) _ hr2 i1 (by omega)
    simp only [SQ, SQB, oneCell, AOp.opds, Nat.reduceAdd, step, Opd.get, reduceCtorEq, bin, binInt, reduceIte, Nat.reduceEqDiff, IntKind.signed, asNat?, loadV, cutCells, unary, evRess, evRes1, oneOrTup, wrapV, target, getsO, boundO, sliceV, exTo, Cp.isFull, isNil, moveV, Int.reduceLE, Int.reduceLT, Int.reduceEq, Int.reduceBEq, Int.reduceGT, Int.reduceGE, Nat.reduceLT, Nat.reduceLeDiff, SQX, V.cells, i25, i24, i23, hh, hr1, take7, hl2.gr, callD_some]
    refine (hwi _).mono ?_
    intro v' H' hown'
    refine ⟨y.l.length - (i + 1), by omega, i + 1, rfl, by omega, by rw [wrap_i64 (by omega) (by omega)]; rfl, by rw [callsL_take hh]; exact hown'⟩
  · have : y.l.take i = y.l := List.take_of_length_le (by omega)
    rw [this, ← hfin] at i1
    simp only [SQ, SQB, oneCell, AOp.opds, Nat.reduceAdd, step, Opd.get, reduceCtorEq, bin, binInt, reduceIte, Nat.reduceEqDiff, IntKind.signed, asNat?, loadV, cutCells, unary, evRess, evRes1, oneOrTup, wrapV, target, getsO, boundO, sliceV, exTo, Cp.isFull, isNil, moveV, Int.reduceLE, Int.reduceLT, Int.reduceEq, Int.reduceBEq, Int.reduceGT, Int.reduceGE, Nat.reduceLT, Nat.reduceLeDiff, SQX, V.cells, i25, i24, i23, hh]
    exact i1
set_option maxHeartbeats 2000000 in
theorem refCalls_r (n : Nat) : ∀ (y : Nd), szN y ≤ n → CallsOk k_spinnakerref25_Calls y := by
  refine n.rec (fun x hn => ?_) (fun n ih y hn => ?_)
  · cases x; simp [szN] at hn
  have hm : ∀ z ∈ y.l, CallsOk k_spinnakerref25_Calls z := fun z hz => ih z (by have := sz_child hz; omega)
  intro base cs h H v l hv hown hlim
  obtain ⟨lw, rfl, hl⟩ := hv.open
  have ll := hl.len
  have lt := hl.lt
  have hsz := szN_eq y
  have hlm : lim = 2 ^ 36 := rfl
  first | refine WpF_pure (A := f_spinnakerref25_Calls) rfl rfl rfl rfl ?_ | refine WpF_imp (A := f_spinnakerref25_Calls) rfl rfl rfl rfl ?_
  simp only [f_spinnakerref25_Calls]
  refine WpC_cut (fun en' h' => en' 2 = .eptr (ndC y lw) 0 ∧ en' 1 = v ∧ h' = H) ?_ ?_
  · simp only [SQ, SQB, oneCell, AOp.opds, Nat.reduceAdd, step, Opd.get, reduceCtorEq, slcLen, bin, binInt, reduceIte, Nat.reduceEqDiff, IntKind.signed, indexV, asNat?, loadV, cutCells, unary, evRess, evRes1, oneOrTup, wrapV, target, getsO, boundO, sliceV, exTo, Cp.isFull, isNil, moveV, Int.reduceLE, Int.reduceLT, Int.reduceEq, Int.reduceBEq, Int.reduceGT, Int.reduceGE, Nat.reduceLT, Nat.reduceLeDiff, SQX, V.cells, hl.gr]
  rintro en1 h1 ⟨e2, e1, rfl⟩
  refine WpC_cut (fun en' h' => en' 2 = .eptr (ndC y lw) 0 ∧ OwnAt h (en' 1) (if y.kind = 18 ∧ inB l y.t = false then l ++ [y.t] else l) h') ?_ ?_
  · have hc := fun base => inH_r (base := base) y.t (hown.sl (by omega))
    obtain ⟨v', H', ha, hown'⟩ := hown.app (base := base) y.t (by omega)
    (simp only [SQ, oneCell, AOp.opds, Nat.reduceAdd, step, Opd.get, reduceCtorEq, slcLen, bin, binInt, reduceIte, Nat.reduceEqDiff, IntKind.signed, indexV, asNat?, loadV, cutCells, unary, evRess, evRes1, oneOrTup, wrapV, target, getsO, boundO, sliceV, exTo, Cp.isFull, isNil, moveV, Int.reduceLE, Int.reduceLT, Int.reduceEq, Int.reduceBEq, Int.reduceGT, Int.reduceGE, Nat.reduceLT, Nat.reduceLeDiff, SQX, V.cells, e2, e1, callD_ret (hc _), getParts2, fillRows, List.replicate, ground, srcRows, elems, ha, List.set_cons_zero, List.isEmpty_cons]; repeat' ((first | refine condQ_i ?_ ?_ | refine guardQ_t ?_ ?_ | refine guardQ_f ?_ ?_) <;> (intro hb; simp only [SQ, oneCell, AOp.opds, Nat.reduceAdd, step, Opd.get, reduceCtorEq, slcLen, bin, binInt, reduceIte, Nat.reduceEqDiff, IntKind.signed, indexV, asNat?, loadV, cutCells, unary, evRess, evRes1, oneOrTup, wrapV, target, getsO, boundO, sliceV, exTo, Cp.isFull, isNil, moveV, Int.reduceLE, Int.reduceLT, Int.reduceEq, Int.reduceBEq, Int.reduceGT, Int.reduceGE, Nat.reduceLT, Nat.reduceLeDiff, SQX, V.cells, hb, e2, e1, callD_ret (hc _), getParts2, fillRows, List.replicate, ground, srcRows, elems, ha, List.set_cons_zero, List.isEmpty_cons])))
    all_goals simp_all
  rintro en2 h2 ⟨f2, f1⟩
  have hlen : (if y.kind = 18 ∧ inB l y.t = false then l ++ [y.t] else l).length ≤ l.length + 1 := by split <;> simp
  have hfin := callsN_eq y l
  generalize (if y.kind = 18 ∧ inB l y.t = false then l ++ [y.t] else l) = l2 at f1 hlen hfin
  simp only [SQ, SQB, oneCell, AOp.opds, Nat.reduceAdd, step, Opd.get, reduceCtorEq, bin, binInt, reduceIte, Nat.reduceEqDiff, IntKind.signed, indexV, asNat?, loadV, cutCells, unary, evRess, evRes1, oneOrTup, wrapV, target, getsO, boundO, sliceV, exTo, Cp.isFull, isNil, moveV, Int.reduceLE, Int.reduceLT, Int.reduceEq, Int.reduceBEq, Int.reduceGT, Int.reduceGE, Nat.reduceLT, Nat.reduceLeDiff, SQX, V.cells, f2, ll]
  refine WpC_loopI (fun k en h' => ∃ i : Nat, k = y.l.length - i ∧ i ≤ y.l.length ∧ en 5 = V.int i ∧ en 2 = .eptr (ndC y lw) 0 ∧ OwnAt h (en 1) (callsL (y.l.take i) l2) h') y.l.length ⟨0, rfl, Nat.zero_le _, rfl, f2, f1⟩ ?_
  rintro k en h' ⟨i, rfl, hi, i5, i2, i1⟩
  by_cases hh : i < y.l.length
  · obtain ⟨r, hr1, hr2⟩ := hl.get hh
    obtain ⟨lv2, rfl, hl2⟩ := hr2.open
    have hlen2 := callsL_len (y.l.take i) l2
    have hlen3 := szL_take hh
    have hlen4 : szL (y.l.take (i + 1)) ≤ szL y.l := by
      rw [szL_eq, szL_eq]
      conv => rhs; rw [← List.take_append_drop (i + 1) y.l]
      rw [List.map_append, List.sum_append]; omega
    have hwi := fun base => hm y.l[i] (List.getElem_mem hh) base _ h h' (en 1) _ hr2 i1 (by omega)
    simp only [SQ, SQB, oneCell, AOp.opds, Nat.reduceAdd, step, Opd.get, reduceCtorEq, bin, binInt, reduceIte, Nat.reduceEqDiff, IntKind.signed, asNat?, loadV, cutCells, unary, evRess, evRes1, oneOrTup, wrapV, target, getsO, boundO, sliceV, exTo, Cp.isFull, isNil, moveV, Int.reduceLE, Int.reduceLT, Int.reduceEq, Int.reduceBEq, Int.reduceGT, Int.reduceGE, Nat.reduceLT, Nat.reduceLeDiff, SQX, V.cells, i5, i2, ll, hh, hr1, take7, hl2.gr, callD_some]
    refine (hwi _).mono ?_
    intro v' H' hown'
    refine ⟨y.l.length - (i + 1), by omega, i + 1, rfl, by omega, by rw [wrap_i64 (by omega) (by omega)]; rfl, by rw [callsL_take hh]; exact hown'⟩
  · have : y.l.take i = y.l := List.take_of_length_le (by omega)
    rw [this, ← hfin] at i1
    simp only [SQ, SQB, oneCell, AOp.opds, Nat.reduceAdd, step, Opd.get, reduceCtorEq, bin, binInt, reduceIte, Nat.reduceEqDiff, IntKind.signed, asNat?, loadV, cutCells, unary, evRess, evRes1, oneOrTup, wrapV, target, getsO, boundO, sliceV, exTo, Cp.isFull, isNil, moveV, Int.reduceLE, Int.reduceLT, Int.reduceEq, Int.reduceBEq, Int.reduceGT, Int.reduceGE, Nat.reduceLT, Nat.reduceLeDiff, SQX, V.cells, i5, i2, ll, hh]
    exact i1
end Go.Am
end
section
/- Am: the checker begins; Kind and Calls. -/
set_option linter.unusedSimpArgs false
namespace Go.Am
theorem callD_exh {α : Type} {S : Fns} {base : Nat} {k : FuncId} {vs : List V} {h : Heap} {p : α → Prop} {f : α → V} {g : α → Heap} (hw : WpF S base k vs h fun v h' => ∃ a, v = f a ∧ h' = g a ∧ p a) : ∃ a, p a ∧ WpF S base k vs h fun v h' => v = f a ∧ h' = g a :=
  let ⟨n, v, h', e, a, hv, hh, hp⟩ := hw
  ⟨a, hp, n, v, h', e, hv, hh⟩
def bgH (h : Heap) (x : Nd) (lv : V) (mg : List (ByteArray × Int)) (mp : List (ByteArray × V)) (e : Er) : Heap := h ++ [.mmap (mg.map mEnt), .mmap (mp.map mEntV), .box 49 (ckC x lv h.length (h.length + 1) e)]
section
variable {h : Heap} {x : Nd} {lv : V} {mg mg' : List (ByteArray × Int)} {mp mp' : List (ByteArray × V)} {e e' : Er}
theorem bgH_0 : (bgH h x lv mg mp e)[h.length]? = some (.mmap (mg.map mEnt)) := by simp [bgH]
theorem bgH_1 : (bgH h x lv mg mp e)[h.length + 1]? = some (.mmap (mp.map mEntV)) := by simp [bgH, List.getElem?_append_right]
theorem bgH_2 : (bgH h x lv mg mp e)[h.length + 1 + 1]? = some (.box 49 (ckC x lv h.length (h.length + 1) e)) := by
  rw [bgH, List.getElem?_append_right (by omega), show h.length + 1 + 1 - h.length = 2 by omega]; rfl
theorem bgH_s0 : (bgH h x lv mg mp e).set h.length (.mmap (mg'.map mEnt)) = bgH h x lv mg' mp e := by
  rw [bgH, List.set_append_right _ _ (by omega), show h.length - h.length = 0 by omega]; rfl
theorem bgH_s1 : (bgH h x lv mg mp e).set (h.length + 1) (.mmap (mp'.map mEntV)) = bgH h x lv mg mp' e := by
  rw [bgH, List.set_append_right _ _ (by omega), show h.length + 1 - h.length = 1 by omega]; rfl
theorem bgH_s2 : (bgH h x lv mg mp e).set (h.length + 1 + 1) (.box 49 (ckC x lv h.length (h.length + 1) e')) = bgH h x lv mg mp e' := by
  rw [bgH, List.set_append_right _ _ (by omega), show h.length + 1 + 1 - h.length = 2 by omega]; rfl
theorem bgH_take : (bgH h x lv mg mp e).take h.length = h := by simp [bgH]
theorem bgH_new : h ++ [.mmap []] ++ [.mmap []] ++ [.box 49 (ckC x lv h.length (h.length + 1) e)] = bgH h x lv [] [] e := by simp [bgH]
end
theorem gStep_eq (s : ByteArray) (a : Int) (y : Nd) : gStep s a y = if s = y.s then (if y.kind = 2 then 3 else if y.kind = 3 then 4 else a) else a := by
  unfold gStep
  simp only [list_eq, decide_eq_true_eq]
  by_cases h : y.s = s
  · rw [if_pos h, if_pos h.symm]
  · rw [if_neg h, if_neg (fun q => h q.symm)]
theorem procN_take {l : List Nd} {i : Nat} (hi : i < l.length) (t : ByteArray) : procN (l.take (i + 1)) t = if l[i].kind = 3 ∧ l[i].s = t then l[i] else procN (l.take i) t := foldl_take hi
theorem globN_take {l : List Nd} {i : Nat} (hi : i < l.length) (s : ByteArray) : globN s (l.take (i + 1)) = gStep s (globN s (l.take i)) l[i] := foldl_take hi
abbrev nd0 : List V := [.sc (.int .i64 0), .sc (.string ⟨#[]⟩), .sc (.string ⟨#[]⟩), .sc (.int .i64 0), .sc (.int .i64 0), .sc (.int .i64 0), .sc (.slice none 0 0), .sc (.map none), .sc (.map none), .sc (.int .i64 0), .sc (.int .i64 0)]
theorem oneCell_sc {v : Value} : oneCell (.sc v) = true := rfl
theorem oneCell_mp {b : Nat} : oneCell (.mp b) = true := rfl
theorem fillBg {x : Nd} {lv : V} (hl : oneCell lv = true) (a b : Nat) : fillParts nd0 [(0, 7, .agg (ndC x lv)), (7, 1, .mp a), (8, 1, .mp b)] = some (ckC x lv a b (0, 0)) := by
  simp only [fillParts, V.cells, List.all_cons, List.all_nil, oneCell_sc, oneCell_mp, hl]
  rfl
theorem LV.ref {lv : V} {l : List Nd} (h : LV lv l) (n : Nat) : refsLt n lv = true := by
  rcases h with ⟨rfl, _⟩ | ⟨_, _, rfl, _⟩ <;> rfl
set_option maxHeartbeats 4000000 in
theorem begin_r {base : Nat} {x : Nd} {lv : V} (h : Heap) (hl : LV lv x.l) : WpF S0 base k_check_begin [.agg (ndC x lv)] h fun v h' => ∃ m : List (ByteArray × Int) × List (ByteArray × V), v = .ptr (h.length + 1 + 1) 0 ∧ h' = bgH h x lv m.1 m.2 (0, 0) ∧ ((∀ s, getI m.1 s = globN s x.l) ∧ ProcM x.l m.2) := by
  have ll := hl.len
  have lt := hl.lt
  first | refine WpF_pure (A := f_check_begin) rfl rfl rfl rfl ?_ | refine WpF_imp (A := f_check_begin) rfl rfl rfl rfl ?_
  simp only [f_check_begin]
  refine WpC_cut (fun en' h' => en' 1 = .eptr (ndC x lv) 0 ∧ h' = h) ?_ ?_
  · simp only [SQ, SQB, oneCell, AOp.opds, Nat.reduceAdd, step, Opd.get, reduceCtorEq, slcLen, bin, binInt, reduceIte, Nat.reduceEqDiff, IntKind.signed, indexV, asNat?, loadV, cutCells, unary, evRess, evRes1, oneOrTup, wrapV, target, getsO, boundO, sliceV, exTo, Cp.isFull, isNil, moveV, Int.reduceLE, Int.reduceLT, Int.reduceEq, Int.reduceBEq, Int.reduceGT, Int.reduceGE, Nat.reduceLT, Nat.reduceLeDiff, SQX, V.cells, hl.gr]
  rintro en1 h1 ⟨e1, rfl⟩
  refine WpC_cut (fun en' h' => en' 1 = .eptr (ndC x lv) 0 ∧ en' 3 = .ptr (h1.length + 1 + 1) 0 ∧ h' = bgH h1 x lv [] [] (0, 0)) ?_ ?_
  · simp only [SQ, SQB, AOp.opds, Nat.reduceAdd, step, Opd.get, reduceCtorEq, slcLen, bin, binInt, reduceIte, Nat.reduceEqDiff, IntKind.signed, indexV, asNat?, loadV, cutCells, unary, evRess, evRes1, oneOrTup, wrapV, target, getsO, boundO, sliceV, exTo, Cp.isFull, isNil, moveV, Int.reduceLE, Int.reduceLT, Int.reduceEq, Int.reduceBEq, Int.reduceGT, Int.reduceGE, Nat.reduceLT, Nat.reduceLeDiff, SQX, V.cells, e1, take7, getParts, List.length_append, fillBg hl.one, hl.one, bgH_new, oneCell_sc, oneCell_mp]
  rintro en2 h2 ⟨f1, f3, rfl⟩
  refine WpC_cut (fun en' h' => en' 3 = .ptr (h1.length + 1 + 1) 0 ∧ ∃ m : List (ByteArray × Int) × List (ByteArray × V), h' = bgH h1 x lv m.1 m.2 (0, 0) ∧ ((∀ s, getI m.1 s = globN s x.l) ∧ ProcM x.l m.2)) ?_ ?_
  · simp only [SQ, SQB, oneCell, AOp.opds, Nat.reduceAdd, step, Opd.get, reduceCtorEq, bin, binInt, reduceIte, Nat.reduceEqDiff, IntKind.signed, indexV, asNat?, loadV, cutCells, unary, evRess, evRes1, oneOrTup, wrapV, target, getsO, boundO, sliceV, exTo, Cp.isFull, isNil, moveV, Int.reduceLE, Int.reduceLT, Int.reduceEq, Int.reduceBEq, Int.reduceGT, Int.reduceGE, Nat.reduceLT, Nat.reduceLeDiff, SQX, V.cells, f1, f3, ll]
    refine WpC_loopI (fun k en h' => ∃ i : Nat, k = x.l.length - i ∧ i ≤ x.l.length ∧ en 14 = V.int i ∧ en 13 = V.int x.l.length ∧ en 12 = lv ∧ en 3 = .ptr (h1.length + 1 + 1) 0 ∧ ∃ m : List (ByteArray × Int) × List (ByteArray × V), h' = bgH h1 x lv m.1 m.2 (0, 0) ∧ ((∀ s, getI m.1 s = globN s (x.l.take i)) ∧ ProcM (x.l.take i) m.2)) x.l.length
      ⟨0, rfl, Nat.zero_le _, rfl, rfl, rfl, f3, ([], []), rfl, fun s => rfl, fun t => ⟨_, rfl, .inl ⟨rfl, rfl⟩⟩⟩ ?_
    rintro k en h' ⟨i, rfl, hi, i14, i13, i12, i3, ⟨mg, mp⟩, rfl, hmg, hmp⟩
    by_cases hh : i < x.l.length
    · obtain ⟨r, hr1, hr2⟩ := hl.get hh
      obtain ⟨lv2, rfl, hl2⟩ := hr2.open
      have hc := bgH_2 (h := h1) (x := x) (lv := lv) (mg := mg) (mp := mp) (e := (0, 0))
      have hu0 := fun (s : ByteArray) (n : Int) => upd_b (base := base) s n (bgH_0 (h := h1) (x := x) (lv := lv) (mg := mg) (mp := mp) (e := (0, 0)))
      have hc2 := fun (mg : List (ByteArray × Int)) => bgH_2 (h := h1) (x := x) (lv := lv) (mg := mg) (mp := mp) (e := (0, 0))
      have hu1 := fun (mg : List (ByteArray × Int)) (s : ByteArray) => upd_bV (base := base) s (.agg (ndC x.l[i] lv2)) (bgH_1 (h := h1) (x := x) (lv := lv) (mg := mg) (mp := mp) (e := (0, 0))) (by simp only [V.cells, List.all_cons, List.all_nil, oneCell_sc, hl2.one, Bool.and_true]) (by simp [mayStore, refsLts, refsLt, hl2.ref])
      (simp only [SQ, oneCell, AOp.opds, Nat.reduceAdd, step, Opd.get, reduceCtorEq, bin, binInt, reduceIte, Nat.reduceEqDiff, IntKind.signed, asNat?, loadV, cutCells, unary, evRess, evRes1, oneOrTup, wrapV, target, getsO, boundO, sliceV, exTo, Cp.isFull, isNil, moveV, Int.reduceLE, Int.reduceLT, Int.reduceEq, Int.reduceBEq, Int.reduceGT, Int.reduceGE, Nat.reduceLT, Nat.reduceLeDiff, SQX, V.cells, i14, i13, i12, i3, hh, hr1, take7, hl2.gr, hc, hc2, hu0, hu1, bgH_s0, bgH_s1]; repeat' ((first | refine condQ_i ?_ ?_ | refine guardQ_t ?_ ?_ | refine guardQ_f ?_ ?_) <;> (intro hb; simp only [SQ, oneCell, AOp.opds, Nat.reduceAdd, step, Opd.get, reduceCtorEq, bin, binInt, reduceIte, Nat.reduceEqDiff, IntKind.signed, asNat?, loadV, cutCells, unary, evRess, evRes1, oneOrTup, wrapV, target, getsO, boundO, sliceV, exTo, Cp.isFull, isNil, moveV, Int.reduceLE, Int.reduceLT, Int.reduceEq, Int.reduceBEq, Int.reduceGT, Int.reduceGE, Nat.reduceLT, Nat.reduceLeDiff, SQX, V.cells, hb, i14, i13, i12, i3, hh, hr1, take7, hl2.gr, hc, hc2, hu0, hu1, bgH_s0, bgH_s1])))
      all_goals refine ⟨x.l.length - (i + 1), by omega, i + 1, rfl, by omega, by rw [wrap_i64 (by omega) (by omega)]; rfl, ?_⟩
      all_goals clear hu0 hu1 hr1 hr2 hc hc2
      · refine ⟨(_, _), rfl, fun s => ?_, fun t => ?_⟩
        · have k2 := of_decide_eq_true hb
          rw [get_put, globN_take hh, gStep_eq, hmg, if_pos k2]
        · have k2 := of_decide_eq_true hb
          rw [procN_take hh, if_neg (fun q => by omega)]
          exact hmp t
      · rename_i hb1
        have k2 := of_decide_eq_false hb1
        have k3 := of_decide_eq_true hb
        refine ⟨(_, _), rfl, fun s => ?_, fun t => ?_⟩
        · rw [get_put, globN_take hh, gStep_eq, hmg, if_neg k2, if_pos k3]
        · rw [getV_put, procN_take hh]
          by_cases q : t = x.l[i].s
          · rw [if_pos q, if_pos ⟨k3, q.symm⟩]
            exact ⟨lv2, rfl, hl2⟩
          · rw [if_neg q, if_neg (fun w => q w.2.symm)]
            exact hmp t
      · rename_i hb1
        have k2 := of_decide_eq_false hb1
        have k3 := of_decide_eq_false hb
        refine ⟨(mg, mp), rfl, fun s => ?_, fun t => ?_⟩
        · rw [globN_take hh, gStep_eq, hmg, if_neg k2, if_neg k3, ite_self]
        · rw [procN_take hh, if_neg (fun q => k3 q.1)]
          exact hmp t
    · have : x.l.take i = x.l := List.take_of_length_le (by omega)
      rw [this] at hmg hmp
      simp only [SQ, SQB, oneCell, AOp.opds, Nat.reduceAdd, step, Opd.get, reduceCtorEq, bin, binInt, reduceIte, Nat.reduceEqDiff, IntKind.signed, asNat?, loadV, cutCells, unary, evRess, evRes1, oneOrTup, wrapV, target, getsO, boundO, sliceV, exTo, Cp.isFull, isNil, moveV, Int.reduceLE, Int.reduceLT, Int.reduceEq, Int.reduceBEq, Int.reduceGT, Int.reduceGE, Nat.reduceLT, Nat.reduceLeDiff, SQX, V.cells, i14, i13, i12, i3, hh]
      exact ⟨(mg, mp), rfl, hmg, hmp⟩
  rintro en3 h3 ⟨g3, m, rfl, hm⟩
  simp only [SQ, SQB, oneCell, AOp.opds, Nat.reduceAdd, step, Opd.get, reduceCtorEq, slcLen, bin, binInt, reduceIte, Nat.reduceEqDiff, IntKind.signed, indexV, asNat?, loadV, cutCells, unary, evRess, evRes1, oneOrTup, wrapV, target, getsO, boundO, sliceV, exTo, Cp.isFull, isNil, moveV, Int.reduceLE, Int.reduceLT, Int.reduceEq, Int.reduceBEq, Int.reduceGT, Int.reduceGE, Nat.reduceLT, Nat.reduceLeDiff, SQX, V.cells, g3]
  exact ⟨m, rfl, hm⟩
theorem kOf_kind {ms mg : List (ByteArray × Int)} {s : ByteArray} {p x : Nd} (h1 : getI ms s = locN s x) (h2 : getI mg s = globN s p.l) : kOf ms mg s = kindN s p x := by
  unfold kOf kindN
  rw [h1, h2]
def itemAt (x : Nd) (i : Int) : Nd := x.l.getD i.toNat zN
theorem isItem_no {x : Nd} {i : Int} (h : isItem x i = true) : ∃ (n : Nat) (hh : n < x.l.length), i = n ∧ okK nameB 1 1 x = true ∧ x.l[n].kind ≠ 2 ∧ itemAt x i = x.l[n] := by
  simp only [isItem, Bool.and_eq_true, decide_eq_true_eq] at h
  obtain ⟨⟨h1, h2⟩, h3⟩ := h
  have hh : i.toNat < x.l.length := by omega
  rw [List.getElem?_eq_getElem hh] at h3
  refine ⟨i.toNat, hh, by omega, h1, of_decide_eq_true h3, ?_⟩
  simp [itemAt, hh]
theorem LV.nd {x : Nd} {lv : V} (h : LV lv x.l) : NdV x (ndC x lv) := by
  cases x with
  | mk k s t n o ln l =>
    refine ⟨lv, rfl, ?_⟩
    rcases h with ⟨q1, q2⟩ | q
    · simp only [Nd.l] at q2
      subst q2
      exact .inl ⟨q1, by simp [NdR]⟩
    · exact .inr q
set_option maxHeartbeats 2000000 in
theorem ckKind_r {base : Nat} {x : Nd} {lv : V} (i : Int) (s : ByteArray) (h : Heap) (hl : LV lv x.l) : WpF S0 base k_check_Kind [.agg (ndC x lv), .sc (.int .i64 i), .sc (.string s)] h fun v h' => v = .sc (.int .i64 (if isItem x i then kindN s x (itemAt x i) else 0)) ∧ h' = h := by
  have hv := hl.nd
  cases hi : isItem x i
  · have hno := fun base h => citem_no (base := base) i h hv hl hi
    first | refine WpF_pure (A := f_check_Kind) rfl rfl rfl rfl ?_ | refine WpF_imp (A := f_check_Kind) rfl rfl rfl rfl ?_
    simp only [f_check_Kind]
    simp only [SQ, SQB, oneCell, AOp.opds, Nat.reduceAdd, step, Opd.get, reduceCtorEq, slcLen, bin, binInt, reduceIte, Nat.reduceEqDiff, IntKind.signed, indexV, asNat?, loadV, cutCells, unary, evRess, evRes1, oneOrTup, wrapV, target, getsO, boundO, sliceV, exTo, Cp.isFull, isNil, moveV, Int.reduceLE, Int.reduceLT, Int.reduceEq, Int.reduceBEq, Int.reduceGT, Int.reduceGE, Nat.reduceLT, Nat.reduceLeDiff, SQX, V.cells, hl.gr, take7, callD_ret (hno _ _)]
  · obtain ⟨n, hh, rfl, hm, hk, hat⟩ := isItem_no hi
    have hyes := fun base h => citem_yes (base := base) n h hv hl hh hm hk
    rw [hat]
    first | refine WpF_pure (A := f_check_Kind) rfl rfl rfl rfl ?_ | refine WpF_imp (A := f_check_Kind) rfl rfl rfl rfl ?_
    simp only [f_check_Kind]
    refine WpC_cut (fun en' h' => en' 3 = .eptr (ndC x lv) 0 ∧ en' 1 = .sc (.int .i64 n) ∧ en' 2 = .sc (.string s) ∧ h' = h) ?_ ?_
    · simp only [SQ, SQB, oneCell, AOp.opds, Nat.reduceAdd, step, Opd.get, reduceCtorEq, slcLen, bin, binInt, reduceIte, Nat.reduceEqDiff, IntKind.signed, indexV, asNat?, loadV, cutCells, unary, evRess, evRes1, oneOrTup, wrapV, target, getsO, boundO, sliceV, exTo, Cp.isFull, isNil, moveV, Int.reduceLE, Int.reduceLT, Int.reduceEq, Int.reduceBEq, Int.reduceGT, Int.reduceGE, Nat.reduceLT, Nat.reduceLeDiff, SQX, V.cells, hl.gr]
    rintro en1 h1 ⟨e3, e1, e2, rfl⟩
    obtain ⟨lv3, hl3, hw⟩ := hyes h1.length h1
    obtain ⟨⟨mg, mp⟩, ⟨hmg, hmp⟩, hb⟩ := callD_exh (begin_r (base := h1.length) h1 hl)
    obtain ⟨ms, hms, hlo⟩ := callD_exh (f := fun _ => .mp (bgH h1 x lv mg mp (0, 0)).length) (g := fun ms : List (ByteArray × Int) => bgH h1 x lv mg mp (0, 0) ++ [.mmap (ms.map mEnt)]) (local_r (base := h1.length) (bgH h1 x lv mg mp (0, 0)) hl3.nd)
    have g0 : (bgH h1 x lv mg mp (0, 0) ++ [Obj.mmap (ms.map mEnt)])[(bgH h1 x lv mg mp (0, 0)).length]? = some (.mmap (ms.map mEnt)) := by simp
    have hk := fun base => ckind_r (base := base) s g0 (ext_mono bgH_2) rfl (ext_mono bgH_0)
    have hfin := kOf_kind (p := x) (x := x.l[n]) (hms s) (hmg s)
    unfold kOf at hfin
    have htk : (bgH h1 x lv mg mp (0, 0) ++ [Obj.mmap (ms.map mEnt)]).take h1.length = h1 := by
      rw [List.take_append_of_le_length (by simp [bgH]), bgH_take]
    simp only [SQ, SQB, oneCell, AOp.opds, Nat.reduceAdd, step, Opd.get, reduceCtorEq, slcLen, bin, binInt, reduceIte, Nat.reduceEqDiff, IntKind.signed, indexV, asNat?, loadV, cutCells, unary, evRess, evRes1, oneOrTup, wrapV, target, getsO, boundO, sliceV, exTo, Cp.isFull, isNil, moveV, Int.reduceLE, Int.reduceLT, Int.reduceEq, Int.reduceBEq, Int.reduceGT, Int.reduceGE, Nat.reduceLT, Nat.reduceLeDiff, SQX, V.cells, e3, e1, e2, take7, hl3.gr, callD_ret hw, callD_ret hb, callD_ret hlo, callD_ret (hk _), hfin, htk]
theorem OwnAt.frz {h H : Heap} {v : V} {l : List ByteArray} (q : OwnAt h v l H) {Q : V → Prop} (hq : ∀ v', ((v' = .sc (.slice none 0 0) ∧ l = []) ∨ ∃ ex, v' = .slc ex 1 (l.map sv)) → Q v') : Frz H h.length v Q := by
  rcases q with ⟨rfl, rfl, rfl⟩ | ⟨e, rfl, rfl⟩
  · exact Frz_sc (hq _ (.inl ⟨rfl, rfl⟩))
  · refine ⟨1, .slc .any 1 (l.map sv), ?_, hq _ (.inr ⟨_, rfl⟩)⟩
    have : (List.map sv l).take l.length = List.map sv l := List.take_of_length_le (by simp)
    simp [freezeV, rowAt, this, ground]
theorem OwnAt.tk {h H : Heap} {v : V} {l : List ByteArray} (q : OwnAt h v l H) : H.take h.length = h := by
  rcases q with ⟨rfl, rfl, rfl⟩ | ⟨e, rfl, rfl⟩ <;> simp
def FrN (v : V) (l : List ByteArray) : Prop := (v = .sc (.slice none 0 0) ∧ l = []) ∨ ∃ ex, v = .slc ex 1 (l.map sv)
theorem FrN.sl {v : V} {l : List ByteArray} (q : FrN v l) (h : Heap) (hl : l.length < 2 ^ 62) : SlN h v l := ⟨hl, by rcases q with q | q; exact .inl q; exact .inr (.inl q)⟩
theorem OwnAt.nil {h : Heap} : OwnAt h (.sc (.slice none 0 0)) [] h := .inl ⟨rfl, rfl, rfl⟩
set_option maxHeartbeats 2000000 in
theorem ckCalls_r {base : Nat} {x : Nd} {lv : V} (i : Int) (h : Heap) (hl : LV lv x.l) (hsz : szN x ≤ lim) : WpF S0 base k_check_Calls [.agg (ndC x lv), .sc (.int .i64 i)] h fun v h' => FrN v (if isItem x i then callsN (itemAt x i) [] else []) ∧ h' = h := by
  have hv := hl.nd
  cases hi : isItem x i
  · have hno := fun base h => citem_no (base := base) i h hv hl hi
    first | refine WpF_pure (A := f_check_Calls) rfl rfl rfl rfl ?_ | refine WpF_imp (A := f_check_Calls) rfl rfl rfl rfl ?_
    simp only [f_check_Calls]
    simp only [SQ, SQB, oneCell, AOp.opds, Nat.reduceAdd, step, Opd.get, reduceCtorEq, slcLen, bin, binInt, reduceIte, Nat.reduceEqDiff, IntKind.signed, indexV, asNat?, loadV, cutCells, unary, evRess, evRes1, oneOrTup, wrapV, target, getsO, boundO, sliceV, exTo, Cp.isFull, isNil, moveV, Int.reduceLE, Int.reduceLT, Int.reduceEq, Int.reduceBEq, Int.reduceGT, Int.reduceGE, Nat.reduceLT, Nat.reduceLeDiff, SQX, V.cells, hl.gr, take7, callD_ret (hno _ _)]
    exact .inl ⟨rfl, rfl⟩
  · obtain ⟨n, hh, rfl, hm, hk, hat⟩ := isItem_no hi
    have hyes := fun base h => citem_yes (base := base) n h hv hl hh hm hk
    rw [hat]
    first | refine WpF_pure (A := f_check_Calls) rfl rfl rfl rfl ?_ | refine WpF_imp (A := f_check_Calls) rfl rfl rfl rfl ?_
    simp only [f_check_Calls]
    refine WpC_cut (fun en' h' => en' 2 = .eptr (ndC x lv) 0 ∧ en' 1 = .sc (.int .i64 n) ∧ h' = h) ?_ ?_
    · simp only [SQ, SQB, oneCell, AOp.opds, Nat.reduceAdd, step, Opd.get, reduceCtorEq, slcLen, bin, binInt, reduceIte, Nat.reduceEqDiff, IntKind.signed, indexV, asNat?, loadV, cutCells, unary, evRess, evRes1, oneOrTup, wrapV, target, getsO, boundO, sliceV, exTo, Cp.isFull, isNil, moveV, Int.reduceLE, Int.reduceLT, Int.reduceEq, Int.reduceBEq, Int.reduceGT, Int.reduceGE, Nat.reduceLT, Nat.reduceLeDiff, SQX, V.cells, hl.gr]
    rintro en1 h1 ⟨e2, e1, rfl⟩
    obtain ⟨lv3, hl3, hw⟩ := hyes h1.length h1
    have hsz2 := sz_child (List.getElem_mem hh)
    have hcl := calls_r _ x.l[n] (Nat.le_refl _) h1.length _ h1 h1 _ [] hl3.nd .nil (by simp only [List.length_nil]; omega)
    simp only [SQ, SQB, oneCell, AOp.opds, Nat.reduceAdd, step, Opd.get, reduceCtorEq, slcLen, bin, binInt, reduceIte, Nat.reduceEqDiff, IntKind.signed, indexV, asNat?, loadV, cutCells, unary, evRess, evRes1, oneOrTup, wrapV, target, getsO, boundO, sliceV, exTo, Cp.isFull, isNil, moveV, Int.reduceLE, Int.reduceLT, Int.reduceEq, Int.reduceBEq, Int.reduceGT, Int.reduceGE, Nat.reduceLT, Nat.reduceLeDiff, SQX, V.cells, e2, e1, take7, hl3.gr, callD_ret hw, callD_some]
    refine hcl.mono ?_
    intro v' H' hown
    refine hown.frz fun v2 h2 => ⟨h2, hown.tk⟩
end Go.Am
end
