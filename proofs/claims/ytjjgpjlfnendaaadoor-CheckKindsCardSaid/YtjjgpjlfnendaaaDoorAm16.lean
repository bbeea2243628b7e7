/- The abstract machine and what is proved in it, part 16. -/
import Derived.Test.YtjjgpjlfnendaaaDoorAm15
set_option linter.unusedVariables false
section
/- Am: the law CheckKinds. -/
set_option linter.unusedSimpArgs false
namespace Go.Am
theorem chkAwake0 (base : Nat) : evCall Xt Ft 120 base k_spinnakerlaw25_awake [] [] = some (.sc (.bool true), []) := by kernel_rfl
theorem chkAwake1 (base : Nat) (o : Obj) : evCall Xt Ft 120 base k_spinnakerlaw25_awake [] [o] = some (.sc (.bool true), [o]) := by kernel_rfl
theorem aw0 (base : Nat) : WpF S0 base k_spinnakerlaw25_awake [] [] fun v h' => v = .sc (.bool true) ∧ h' = [] := ⟨120, _, _, chkAwake0 base, rfl, rfl⟩
theorem aw1 (base : Nat) (o : Obj) : WpF S0 base k_spinnakerlaw25_awake [] [o] fun v h' => v = .sc (.bool true) ∧ h' = [o] := ⟨120, _, _, chkAwake1 base o, rfl, rfl⟩
theorem OwnAt.aw {v : V} {l : List ByteArray} {H : Heap} (q : OwnAt [] v l H) (base : Nat) : WpF S0 base k_spinnakerlaw25_awake [] H fun v h' => v = .sc (.bool true) ∧ h' = H := by
  rcases q with ⟨rfl, rfl, rfl⟩ | ⟨e, rfl, rfl⟩
  · exact aw0 base
  · exact aw1 base _
set_option maxHeartbeats 4000000 in
theorem kinds_law {x : Nd} {cs : List V} (hv : NdV x cs) (hmx : mxN x ≤ 2 ^ 63) (i : Int) (s : ByteArray) : WpF S0 0 k_spinnakerlaw25_CheckKinds [.agg cs, .sc (.int .i64 i), .sc (.string s)] [] fun v _ => v = .sc (.bool true) := by
  obtain ⟨lv, rfl, hl⟩ := hv.open
  have ll := hl.len
  have lt := hl.lt
  have hmay := fun base h => refMay_r (base := base) h hv
  first | refine WpF_pure (A := f_spinnakerlaw25_CheckKinds) rfl rfl rfl rfl ?_ | refine WpF_imp (A := f_spinnakerlaw25_CheckKinds) rfl rfl rfl rfl ?_
  simp only [f_spinnakerlaw25_CheckKinds]
  refine WpC_cut (fun en' h' => en' 3 = .eptr (ndC x lv) 0 ∧ en' 1 = .sc (.int .i64 i) ∧ en' 2 = .sc (.string s) ∧ h' = []) ?_ ?_
  · simp only [SQ, SQB, oneCell, AOp.opds, Nat.reduceAdd, step, Opd.get, reduceCtorEq, slcLen, bin, binInt, reduceIte, Nat.reduceEqDiff, IntKind.signed, indexV, asNat?, loadV, cutCells, unary, evRess, evRes1, oneOrTup, wrapV, target, getsO, boundO, sliceV, exTo, Cp.isFull, isNil, moveV, Int.reduceLE, Int.reduceLT, Int.reduceEq, Int.reduceBEq, Int.reduceGT, Int.reduceGE, Nat.reduceLT, Nat.reduceLeDiff, SQX, V.cells, hl.gr]
  rintro en1 h1 ⟨e3, e1, e2, rfl⟩
  obtain ⟨bl, hbl, hlarge⟩ := callD_ex (f := fun b : Bool => V.sc (.bool b)) (large_r (base := 0) [] hv hmx)
  cases bl
  rotate_left
  · simp only [SQ, SQB, oneCell, AOp.opds, Nat.reduceAdd, step, Opd.get, reduceCtorEq, slcLen, bin, binInt, reduceIte, Nat.reduceEqDiff, IntKind.signed, indexV, asNat?, loadV, cutCells, unary, evRess, evRes1, oneOrTup, wrapV, target, getsO, boundO, sliceV, exTo, Cp.isFull, isNil, moveV, Int.reduceLE, Int.reduceLT, Int.reduceEq, Int.reduceBEq, Int.reduceGT, Int.reduceGE, Nat.reduceLT, Nat.reduceLeDiff, SQX, V.cells, e3, take7, List.length_nil, callD_ret hlarge, callD_ret (aw0 _), List.take_nil]
  have hsz := hbl rfl
  refine WpC_cut (fun en' h' => en' 3 = .eptr (ndC x lv) 0 ∧ en' 1 = .sc (.int .i64 i) ∧ en' 2 = .sc (.string s) ∧ h' = []) ?_ ?_
  · simp only [SQ, SQB, oneCell, AOp.opds, Nat.reduceAdd, step, Opd.get, reduceCtorEq, slcLen, bin, binInt, reduceIte, Nat.reduceEqDiff, IntKind.signed, indexV, asNat?, loadV, cutCells, unary, evRess, evRes1, oneOrTup, wrapV, target, getsO, boundO, sliceV, exTo, Cp.isFull, isNil, moveV, Int.reduceLE, Int.reduceLT, Int.reduceEq, Int.reduceBEq, Int.reduceGT, Int.reduceGE, Nat.reduceLT, Nat.reduceLeDiff, SQX, V.cells, e3, e1, e2, take7, List.length_nil, callD_ret hlarge]
  rintro en2 h2 ⟨f3, f1, f2, rfl⟩
  have hlm : lim = 2 ^ 36 := rfl
  refine WpC_cut (fun en' h' => en' 3 = .eptr (ndC x lv) 0 ∧ en' 1 = .sc (.int .i64 i) ∧ en' 2 = .sc (.string s) ∧ en' 7 = .sc (.int .i64 (if isItem x i then kindN s x (itemAt x i) else 0)) ∧ FrN (en' 8) (if isItem x i then callsN (itemAt x i) [] else []) ∧ h' = []) ?_ ?_
  · simp only [SQ, SQB, oneCell, AOp.opds, Nat.reduceAdd, step, Opd.get, reduceCtorEq, slcLen, bin, binInt, reduceIte, Nat.reduceEqDiff, IntKind.signed, indexV, asNat?, loadV, cutCells, unary, evRess, evRes1, oneOrTup, wrapV, target, getsO, boundO, sliceV, exTo, Cp.isFull, isNil, moveV, Int.reduceLE, Int.reduceLT, Int.reduceEq, Int.reduceBEq, Int.reduceGT, Int.reduceGE, Nat.reduceLT, Nat.reduceLeDiff, SQX, V.cells, f3, f1, f2, take7, List.length_nil, callD_ret (ckKind_r _ _ _ hl), callD_some]
    refine (ckCalls_r (base := 0) i [] hl (by omega)).mono ?_
    rintro v h' ⟨hv', rfl⟩
    exact ⟨hv', rfl⟩
  rintro en3 h3 ⟨g3, g1, g2, g7, g8, rfl⟩
  cases hi : isItem x i
  · rw [hi] at g7 g8
    simp only [Bool.false_eq_true, if_false] at g7 g8
    have g8l : slcLen (en3 8) = some 0 := by
      rcases g8 with ⟨q, _⟩ | ⟨ex, q⟩ <;> rw [q] <;> rfl
    cases hm : okK nameB 1 1 x
    · simp only [SQ, SQB, oneCell, AOp.opds, Nat.reduceAdd, step, Opd.get, reduceCtorEq, bin, binInt, reduceIte, Nat.reduceEqDiff, IntKind.signed, indexV, asNat?, loadV, cutCells, unary, evRess, evRes1, oneOrTup, wrapV, target, getsO, boundO, sliceV, exTo, Cp.isFull, isNil, moveV, Int.reduceLE, Int.reduceLT, Int.reduceEq, Int.reduceBEq, Int.reduceGT, Int.reduceGE, Nat.reduceLT, Nat.reduceLeDiff, SQX, V.cells, g3, g1, g7, g8l, take7, List.length_nil, callD_ret (hmay _ _), hm, callD_ret (aw0 _), List.take_nil, Int.natCast_zero, Int.ofNat_zero]
    by_cases h0 : i < 0
    · have d0 := decide_eq_true h0
      simp only [SQ, SQB, oneCell, AOp.opds, Nat.reduceAdd, step, Opd.get, reduceCtorEq, bin, binInt, reduceIte, Nat.reduceEqDiff, IntKind.signed, indexV, asNat?, loadV, cutCells, unary, evRess, evRes1, oneOrTup, wrapV, target, getsO, boundO, sliceV, exTo, Cp.isFull, isNil, moveV, Int.reduceLE, Int.reduceLT, Int.reduceEq, Int.reduceBEq, Int.reduceGT, Int.reduceGE, Nat.reduceLT, Nat.reduceLeDiff, SQX, V.cells, g3, g1, g7, g8l, take7, List.length_nil, callD_ret (hmay _ _), hm, d0, callD_ret (aw0 _), List.take_nil, Int.natCast_zero, Int.ofNat_zero]
    have d0 := decide_eq_false h0
    by_cases h1 : (x.l.length : Int) ≤ i
    · have d1 := decide_eq_true h1
      simp only [SQ, SQB, oneCell, AOp.opds, Nat.reduceAdd, step, Opd.get, reduceCtorEq, bin, binInt, reduceIte, Nat.reduceEqDiff, IntKind.signed, indexV, asNat?, loadV, cutCells, unary, evRess, evRes1, oneOrTup, wrapV, target, getsO, boundO, sliceV, exTo, Cp.isFull, isNil, moveV, Int.reduceLE, Int.reduceLT, Int.reduceEq, Int.reduceBEq, Int.reduceGT, Int.reduceGE, Nat.reduceLT, Nat.reduceLeDiff, SQX, V.cells, g3, g1, g7, g8l, take7, List.length_nil, callD_ret (hmay _ _), hm, d0, ll, d1, callD_ret (aw0 _), List.take_nil, Int.natCast_zero, Int.ofNat_zero]
    have d1 := decide_eq_false h1
    obtain ⟨n, rfl⟩ : ∃ n : Nat, i = n := ⟨i.toNat, by omega⟩
    have hh : n < x.l.length := by omega
    obtain ⟨r, hr1, hr2⟩ := hl.get hh
    obtain ⟨lv2, rfl, _⟩ := hr2.open
    have k2 : x.l[n].kind = 2 := by
      unfold isItem at hi
      rw [hm, Int.toNat_natCast, List.getElem?_eq_getElem hh, decide_eq_true (show 0 ≤ (n : Int) ∧ (n : Int) < x.l.length by omega)] at hi
      simpa using hi
    have d2 := decide_eq_true k2
    have d0' : decide ((n : Int) < 0) = false := decide_eq_false (by omega)
    simp only [SQ, SQB, oneCell, AOp.opds, Nat.reduceAdd, step, Opd.get, reduceCtorEq, bin, binInt, reduceIte, Nat.reduceEqDiff, IntKind.signed, asNat?, loadV, cutCells, unary, evRess, evRes1, oneOrTup, wrapV, target, getsO, boundO, sliceV, exTo, Cp.isFull, isNil, moveV, Int.reduceLE, Int.reduceLT, Int.reduceEq, Int.reduceBEq, Int.reduceGT, Int.reduceGE, Nat.reduceLT, Nat.reduceLeDiff, SQX, V.cells, g3, g1, g7, g8l, take7, List.length_nil, callD_ret (hmay _ _), hm, d0', ll, hh, Nat.not_le.2 hh, hr1, d2, callD_ret (aw0 _), List.take_nil, Int.natCast_zero, Int.ofNat_zero]
  obtain ⟨n, hh, rfl, hm, hk, hat⟩ := isItem_no hi
  rw [hi, hat] at g7 g8
  simp only [if_true] at g7 g8
  obtain ⟨r, hr1, hr2⟩ := hl.get hh
  obtain ⟨lv2, rfl, hl2⟩ := hr2.open
  have d2 := decide_eq_false hk
  have d0' : decide ((n : Int) < 0) = false := decide_eq_false (by omega)
  have hsz2 := sz_child (List.getElem_mem hh)
  refine WpC_cut (fun en' h' => en' 3 = .eptr (ndC x lv) 0 ∧ en' 1 = .sc (.int .i64 n) ∧ en' 2 = .sc (.string s) ∧ en' 7 = .sc (.int .i64 (kindN s x x.l[n])) ∧ FrN (en' 8) (callsN x.l[n] []) ∧ h' = []) ?_ ?_
  · simp only [SQ, SQB, oneCell, AOp.opds, Nat.reduceAdd, step, Opd.get, reduceCtorEq, bin, binInt, reduceIte, Nat.reduceEqDiff, IntKind.signed, asNat?, loadV, cutCells, unary, evRess, evRes1, oneOrTup, wrapV, target, getsO, boundO, sliceV, exTo, Cp.isFull, isNil, moveV, Int.reduceLE, Int.reduceLT, Int.reduceEq, Int.reduceBEq, Int.reduceGT, Int.reduceGE, Nat.reduceLT, Nat.reduceLeDiff, SQX, V.cells, g3, g1, g2, g7, take7, List.length_nil, callD_ret (hmay _ _), hm, d0', ll, hh, Nat.not_le.2 hh, hr1, d2]
    exact g8
  rintro en4 h4 ⟨i3, i1, i2, i7, i8, rfl⟩
  refine WpC_cut (fun en' h' => en' 3 = .eptr (ndC x lv) 0 ∧ en' 1 = .sc (.int .i64 n) ∧ en' 2 = .sc (.string s) ∧ en' 7 = .sc (.int .i64 (kindN s x x.l[n])) ∧ FrN (en' 8) (callsN x.l[n] []) ∧ OwnAt [] (en' 9) (callsN x.l[n] []) h') ?_ ?_
  · simp only [SQ, SQB, oneCell, AOp.opds, Nat.reduceAdd, step, Opd.get, reduceCtorEq, bin, binInt, reduceIte, Nat.reduceEqDiff, IntKind.signed, asNat?, loadV, cutCells, unary, evRess, evRes1, oneOrTup, wrapV, target, getsO, boundO, sliceV, exTo, Cp.isFull, isNil, moveV, Int.reduceLE, Int.reduceLT, Int.reduceEq, Int.reduceBEq, Int.reduceGT, Int.reduceGE, Nat.reduceLT, Nat.reduceLeDiff, SQX, V.cells, i3, i1, i2, i7, hh, hr1, take7, callD_some]
    refine (refCalls_r _ x.l[n] (Nat.le_refl _) 0 _ [] [] _ [] hl2.nd .nil (by simp only [List.length_nil]; omega)).mono ?_
    intro v' H' hown
    exact ⟨i8, hown⟩
  rintro en5 h5 ⟨j3, j1, j2, j7, j8, j9⟩
  have hcl := callsN_len x.l[n] []
  simp only [List.length_nil] at hcl
  generalize hC : callsN x.l[n] [] = C at j8 j9 hcl
  have s8 := j8.sl h5 (by omega)
  have s9 := j9.sl (by omega)
  have l8 := s8.len
  have l9 := s9.len
  refine WpC_cut (fun en' h' => en' 8 = en5 8 ∧ en' 9 = en5 9 ∧ h' = h5) ?_ ?_
  · simp only [SQ, SQB, oneCell, AOp.opds, Nat.reduceAdd, step, Opd.get, reduceCtorEq, bin, binInt, reduceIte, Nat.reduceEqDiff, IntKind.signed, asNat?, loadV, cutCells, unary, evRess, evRes1, oneOrTup, wrapV, target, getsO, boundO, sliceV, exTo, Cp.isFull, isNil, moveV, Int.reduceLE, Int.reduceLT, Int.reduceEq, Int.reduceBEq, Int.reduceGT, Int.reduceGE, Nat.reduceLT, Nat.reduceLeDiff, SQX, V.cells, j3, j1, j2, j7, hh, hr1, take7, callD_ret (refKind_r _ _ hl.nd hl2.nd), l8, l9]
  rintro en6 h6 ⟨m8, m9, rfl⟩
  generalize en5 8 = v8 at s8 l8 m8
  generalize en5 9 = v9 at s9 l9 m9 j9
  refine WpC_cut (fun en' h' => h' = h6) ?_ ?_
  · simp only [SQ, SQB, oneCell, AOp.opds, Nat.reduceAdd, step, Opd.get, reduceCtorEq, bin, binInt, reduceIte, Nat.reduceEqDiff, IntKind.signed, asNat?, loadV, cutCells, unary, evRess, evRes1, oneOrTup, wrapV, target, getsO, boundO, sliceV, exTo, Cp.isFull, isNil, moveV, Int.reduceLE, Int.reduceLT, Int.reduceEq, Int.reduceBEq, Int.reduceGT, Int.reduceGE, Nat.reduceLT, Nat.reduceLeDiff, SQX, V.cells, m8, m9]
    refine WpC_loopI (fun k en h' => ∃ i : Nat, k = C.length - i ∧ i ≤ C.length ∧ en 10 = V.int i ∧ en 8 = v8 ∧ en 9 = v9 ∧ h' = h6) C.length ⟨0, rfl, Nat.zero_le _, rfl, m8, m9, rfl⟩ ?_
    rintro k en h' ⟨i, rfl, hi, e10, e8, e9, rfl⟩
    by_cases h1 : i < C.length
    · obtain ⟨a, ha, hb⟩ := s8.get h1
      obtain ⟨a', ha', hb'⟩ := s9.get h1
      simp only [SQ, SQB, oneCell, AOp.opds, Nat.reduceAdd, step, Opd.get, reduceCtorEq, bin, binInt, reduceIte, Nat.reduceEqDiff, IntKind.signed, asNat?, cutCells, unary, evRess, evRes1, oneOrTup, wrapV, target, getsO, boundO, sliceV, exTo, Cp.isFull, isNil, moveV, Int.reduceLE, Int.reduceLT, Int.reduceEq, Int.reduceBEq, Int.reduceGT, Int.reduceGE, Nat.reduceLT, Nat.reduceLeDiff, SQX, V.cells, e10, e8, e9, l8, h1, ha, hb, ha', hb', binStr, list_eq]
      exact ⟨C.length - (i + 1), by omega, i + 1, rfl, by omega, by rw [wrap_i64 (by omega) (by omega)]; rfl⟩
    · simp only [SQ, SQB, oneCell, AOp.opds, Nat.reduceAdd, step, Opd.get, reduceCtorEq, bin, binInt, reduceIte, Nat.reduceEqDiff, IntKind.signed, asNat?, cutCells, unary, evRess, evRes1, oneOrTup, wrapV, target, getsO, boundO, sliceV, exTo, Cp.isFull, isNil, moveV, Int.reduceLE, Int.reduceLT, Int.reduceEq, Int.reduceBEq, Int.reduceGT, Int.reduceGE, Nat.reduceLT, Nat.reduceLeDiff, SQX, V.cells, e10, e8, e9, l8, h1]
  rintro en7 h7 rfl
  simp only [SQ, SQB, oneCell, AOp.opds, Nat.reduceAdd, step, Opd.get, reduceCtorEq, slcLen, bin, binInt, reduceIte, Nat.reduceEqDiff, IntKind.signed, indexV, asNat?, loadV, cutCells, unary, evRess, evRes1, oneOrTup, wrapV, target, getsO, boundO, sliceV, exTo, Cp.isFull, isNil, moveV, Int.reduceLE, Int.reduceLT, Int.reduceEq, Int.reduceBEq, Int.reduceGT, Int.reduceGE, Nat.reduceLT, Nat.reduceLeDiff, SQX, V.cells, callD_ret (j9.aw _)]
end Go.Am
end
section
/- Am: arguments of one cell. -/
namespace Go.Am
section
variable {P : Program} {W : World} {r : Go.Reach} {base : Nat} {t : TypeId} {v : Value}
theorem cells_slice {e : TypeId} (ht : P.underlying t = some (.slice e)) (h : Value.okWide P W r base t v) : v.cells.toList = [v] := by
  unfold Value.okWide Cell.okWide Cell.ok at h
  simp only [ht] at h
  cases v <;> simp_all [Value.cells]
theorem cells_int {k : IntKind} (ht : P.underlying t = some (.int k)) (h : Value.okWide P W r base t v) : v.cells.toList = [v] := by
  unfold Value.okWide Cell.okWide Cell.ok at h
  simp only [ht] at h
  cases v <;> simp_all [Value.cells]
theorem cells_string (ht : P.underlying t = some .string) (h : Value.okWide P W r base t v) : v.cells.toList = [v] := by
  unfold Value.okWide Cell.okWide Cell.ok at h
  simp only [ht] at h
  cases v <;> simp_all [Value.cells]
end
end Go.Am
end
section
/- Am: arguments of any type of numbers, bools, texts, structs and slices, be it recursive, as they are read. -/
namespace Go.Am
def ShpF (P : Program) (S : TypeId → List V → Prop) : List Field → List V → Prop
  | [], vs => vs = []
  | f :: fs, vs => ∃ a b, vs = a ++ b ∧ a.length = P.cellsOf f.type ∧ S f.type a ∧ ShpF P S fs b
def Shp (P : Program) : Nat → TypeId → List V → Prop
  | 0, _, _ => False
  | n + 1, t, vs => match P.underlying t with
    | some (.int k) => ∃ m : Int, k.min ≤ m ∧ m ≤ k.max ∧ vs = [.sc (.int k m)]
    | some .bool => ∃ b, vs = [.sc (.bool b)]
    | some .string => ∃ s : ByteArray, s.size ≤ Go.maxLen ∧ vs = [.sc (.string s)]
    | some (.slice e) => ∃ rows : List (List V), vs = [.slc .any (P.cellsOf e) rows] ∧ rows.length ≤ Go.maxLen ∧ ∀ r ∈ rows, Shp P n e r
    | some (.struct fs) => ShpF P (Shp P n) fs.toList vs
    | _ => False
section
variable {P : Program} {n : Nat} {t : TypeId} {vs : List V}
theorem Shp.int {k : IntKind} (ht : P.underlying t = some (.int k)) (h : Shp P n t vs) : ∃ m : Int, k.min ≤ m ∧ m ≤ k.max ∧ vs = [.sc (.int k m)] := by
  cases n with
  | zero => exact h.elim
  | succ n => simpa only [Shp, ht] using h
theorem Shp.bool (ht : P.underlying t = some .bool) (h : Shp P n t vs) : ∃ b, vs = [.sc (.bool b)] := by
  cases n with
  | zero => exact h.elim
  | succ n => simpa only [Shp, ht] using h
theorem Shp.str (ht : P.underlying t = some .string) (h : Shp P n t vs) : ∃ s : ByteArray, s.size ≤ Go.maxLen ∧ vs = [.sc (.string s)] := by
  cases n with
  | zero => exact h.elim
  | succ n => simpa only [Shp, ht] using h
theorem Shp.slc {e : TypeId} (ht : P.underlying t = some (.slice e)) (h : Shp P n t vs) : ∃ (rows : List (List V)) (k : Nat), n = k + 1 ∧ vs = [.slc .any (P.cellsOf e) rows] ∧ rows.length ≤ Go.maxLen ∧ ∀ r ∈ rows, Shp P k e r := by
  cases n with
  | zero => exact h.elim
  | succ n =>
    simp only [Shp, ht] at h
    obtain ⟨rows, h1, h2, h3⟩ := h
    exact ⟨rows, n, rfl, h1, h2, h3⟩
theorem Shp.struct {fs : Array Field} (ht : P.underlying t = some (.struct fs)) (h : Shp P n t vs) : ∃ k, n = k + 1 ∧ ShpF P (Shp P k) fs.toList vs := by
  cases n with
  | zero => exact h.elim
  | succ n => exact ⟨n, rfl, by simpa only [Shp, ht] using h⟩
end
theorem rows_map {α : Type} {f : α → List V} {Q : α → Prop} : ∀ {rows : List (List V)}, (∀ r ∈ rows, ∃ a, r = f a ∧ Q a) → ∃ l : List α, rows = l.map f ∧ ∀ a ∈ l, Q a
  | [], _ => ⟨[], rfl, by simp⟩
  | r :: rows, h => by
    obtain ⟨l, rfl, hl⟩ := rows_map (fun r hr => h r (List.mem_cons_of_mem _ hr))
    obtain ⟨a, rfl, ha⟩ := h r (List.mem_cons_self ..)
    exact ⟨a :: l, rfl, fun b hb => by
      rcases List.mem_cons.1 hb with rfl | hb
      · exact ha
      · exact hl b hb⟩
def fieldsAt (P : Program) (tys : List TypeId) : List Field → Nat → Option Nat
  | [], o => some o
  | f :: fs, o => if f.offset = o ∧ tys.contains f.type = true then fieldsAt P tys fs (o + P.cellsOf f.type) else none
def chkTy (P : Program) (tys : List TypeId) : Bool := tys.all fun t => match P.underlying t with
  | some (.int _) | some .bool | some .string => P.cellsOf t == 1
  | some (.slice e) => P.cellsOf t == 1 && tys.contains e && decide (0 < P.cellsOf e)
  | some (.struct fs) => fieldsAt P tys fs.toList 0 == some (P.cellsOf t)
  | _ => false
section
variable {H : Type} {enc : TypeId × Value → H} {P : Program} {W : World} {base : Nat} {spare : Nat → Bool} {held : Bool} {tys : List TypeId}
theorem fields_shp {n : Nat} (ih : ∀ t cs x, t ∈ tys → DataW.trod enc P W base spare held n t cs = some x → Reads W (Shp P n t) (P.cellsOf t) cs) :
    ∀ (fs : List Field) (o : Nat) (cs : List Value), (∀ f ∈ fs, ∃ y, DataW.trod enc P W base spare held n f.type ((cs.drop f.offset).take (P.cellsOf f.type)) = some y) → fieldsAt P tys fs o = some cs.length →
      ∃ vs, vs.length = cs.length - o ∧ o ≤ cs.length ∧ vs.all ground = true ∧ ShpF P (Shp P n) fs vs ∧ RepL (start W) vs (cs.drop o)
  | [], o, cs, _, ho => by
    simp only [fieldsAt, Option.some.injEq] at ho
    subst ho
    exact ⟨[], by simp, Nat.le_refl _, rfl, rfl, by simp [RepL]⟩
  | f :: fs, o, cs, hf, ho => by
    simp only [fieldsAt] at ho
    split at ho
    · rename_i hc
      obtain ⟨rfl, hm⟩ := hc
      obtain ⟨y, hy⟩ := hf f (by simp)
      obtain ⟨b, b1, b2, b3, b4, b5⟩ := fields_shp ih fs _ cs (fun g hg => hf g (by simp [hg])) ho
      obtain ⟨a, a1, a2, a3, a4⟩ := ih _ _ _ (by simpa using hm) hy
      refine ⟨a ++ b, by simp only [List.length_append]; omega, by omega, by simp [a2, b3], ⟨a, b, rfl, a1, a3, b4⟩, ?_⟩
      have := a4.append b5
      rwa [← List.drop_drop, List.take_append_drop] at this
    · simp at ho
theorem trod_shp (hc : chkTy P tys = true) : ∀ (fuel : Nat) (t : TypeId) (cs : List Value) (x : DataW H × List MemPlace), t ∈ tys → DataW.trod enc P W base spare held fuel t cs = some x → Reads W (Shp P fuel t) (P.cellsOf t) cs
  | 0, t, cs, x, _, h => by simp [DataW.trod] at h
  | n + 1, t, cs, x, ht, h => by
    have hk := List.all_eq_true.1 hc t ht
    cases hu : P.underlying t with
    | none => rw [hu] at hk; simp at hk
    | some d =>
      rw [hu] at hk
      cases d with
      | int k =>
        simp only [beq_iff_eq] at hk
        obtain ⟨m, h1, h2, h3⟩ := trod_intV hu h
        exact ⟨[.sc (.int k m)], hk.symm, rfl, by simp only [Shp, hu]; exact ⟨m, h1, h2, rfl⟩, h3⟩
      | bool =>
        simp only [beq_iff_eq] at hk
        obtain ⟨b, rfl, _⟩ := DataW.trod_bool hu h
        exact ⟨[.sc (.bool b)], hk.symm, rfl, by simp only [Shp, hu]; exact ⟨b, rfl⟩, by simp [RepL, RepV, Value.oneCell']⟩
      | string =>
        simp only [beq_iff_eq] at hk
        obtain ⟨s, h1, h2⟩ := trod_strV hu h
        exact ⟨[.sc (.string s)], hk.symm, rfl, by simp only [Shp, hu]; exact ⟨s, h1, rfl⟩, h2⟩
      | slice e =>
        simp only [Bool.and_eq_true, beq_iff_eq, decide_eq_true_eq] at hk
        obtain ⟨⟨h1, h2⟩, h3⟩ := hk
        obtain ⟨rows, r1, r2, r3⟩ := trod_slcN (Good := Shp P n e) hu h3 (fun k cs y hkn hy _ => by
          obtain rfl : n = k := by omega
          exact trod_shp hc n e cs y (by simpa using h2) hy) h
        exact ⟨[.slc .any (P.cellsOf e) rows], h1.symm, rfl, by simp only [Shp, hu]; exact ⟨rows, rfl, r2, fun r hr => (r3 r hr).2⟩, r1⟩
      | struct fs =>
        simp only [beq_iff_eq] at hk
        obtain ⟨xs, m, hm, _, hl, hx, hf⟩ := DataW.trod_struct hu h
        obtain rfl : n = m := by omega
        obtain ⟨vs, v1, _, v2, v3, v4⟩ := fields_shp (trod_shp hc n) fs.toList 0 cs (fun f hf' => by
          obtain ⟨i, hi, rfl⟩ := List.getElem_of_mem hf'
          have hi' : i < fs.size := by simpa using hi
          have := hf i fs[i] (by simp [hi'])
          rw [List.getElem?_eq_getElem (by omega)] at this
          exact ⟨_, by simpa using this⟩) (by rw [hk, hl])
        exact ⟨vs, by omega, v2, by simp only [Shp, hu]; exact v3, by simpa using v4⟩
      | _ => simp at hk
def Each {α β : Type} (R : α → β → Prop) : List α → List β → Prop
  | [], [] => True
  | a :: as, b :: bs => R a b ∧ Each R as bs
  | _, _ => False
def ArgShp (P : Program) (t : TypeId) (v : V) : Prop := ∃ n vs, Shp P n t vs ∧ match P.underlying t with
  | some (.struct _) => v = .agg vs
  | _ => vs = [v]
theorem args_shp (hc : chkTy P tys = true) {r : Go.Reach} {ob : Nat} : ∀ {ts : List TypeId} {vs : List Value} {ds : List (DataW H)} {ps : List MemPlace}, (∀ t ∈ ts, t ∈ tys) → DataW.TrodAll enc P W base spare held ts vs ds ps →
    (∀ (j : Nat) t v, ts[j]? = some t → vs[j]? = some v → Value.okWide P W r ob t v) → ∃ as : List V, RepL (start W) as vs ∧ Each (ArgShp P) ts as ∧ ds.length = ts.length
  | [], vs, ds, ps, _, h, _ => by
    obtain ⟨rfl, rfl, rfl⟩ := ChangeShapes.trodAll_nil h
    exact ⟨[], by simp [RepL], trivial, rfl⟩
  | t :: ts, vs, ds, ps, hin, h, hv => by
    obtain ⟨v, vs', d, ds', p, q, rfl, rfl, rfl, h0, h1⟩ := ChangeShapes.trodAll_cons h
    obtain ⟨as, a1, a2, a3⟩ := args_shp hc (fun t ht => hin t (by simp [ht])) h1 (fun j t' v' hj hv' => hv (j + 1) t' v' (by simpa using hj) (by simpa using hv'))
    obtain ⟨n, h0⟩ := h0
    obtain ⟨xs, x1, x2, x3, x4⟩ := trod_shp hc n t _ _ (hin t (by simp)) h0
    have k0 := hv 0 t v rfl rfl
    have hk := List.all_eq_true.1 hc t (hin t (by simp))
    cases hu : P.underlying t with
    | none => rw [hu] at hk; simp at hk
    | some e =>
      by_cases hst : ∃ fs, e = .struct fs
      · obtain ⟨fs, rfl⟩ := hst
        unfold Value.okWide at k0
        rw [hu] at k0
        obtain ⟨cs, rfl, _, _⟩ := k0
        refine ⟨.agg xs :: as, ?_, ⟨⟨n, xs, x3, by rw [hu]⟩, a2⟩, by simp [a3]⟩
        simp only [RepL, RepV]
        exact ⟨_, _, rfl, ⟨cs, rfl, x4⟩, a1⟩
      · rw [hu] at hk
        have h1c : P.cellsOf t = 1 := by
          cases e <;> simp_all
        obtain ⟨y, rfl⟩ : ∃ y, xs = [y] := by
          match xs, x1 with
          | [y], _ => exact ⟨y, rfl⟩
          | [], h => simp at h; omega
          | _ :: _ :: _, h => simp at h; omega
        have hcells : v.cells.toList = [v] := by
          unfold Value.okWide Cell.okWide Cell.ok at k0
          cases e <;> simp only [hu] at k0 <;> cases v <;> simp_all [Value.cells]
        rw [hcells] at x4
        refine ⟨y :: as, ?_, ⟨⟨n, [y], x3, ?_⟩, a2⟩, by simp [a3]⟩
        · have := RepL.append x4 a1
          simpa using this
        · rw [hu]
          cases e <;> first | rfl | exact absurd ⟨_, rfl⟩ hst
end
end Go.Am
end
