/- The abstract machine and what is proved in it, part 11. -/
import Derived.Test.YtbeaelflokcdjaaGreatDoorAm10
set_option linter.unusedVariables false
set_option linter.unusedSimpArgs false
namespace Go.Am
section
def wordL : List Nat := [55, 23, 111, 103, 99, 4195, 16483, 20579, 24675, 28771, 3, 4099, 8195, 12291, 16387, 20483, 24579, 35, 4131, 8227, 12323, 19, 8211, 12307, 16403, 24595, 28691, 4115, 20499, 1073762323, 27, 4123, 20507, 1073762331, 51, 1073741875, 4147, 8243, 12339, 16435, 20531, 1073762355, 24627, 28723, 59, 1073741883, 4155, 20539, 1073762363, 33554483, 33558579, 33562675, 33566771, 33570867, 33574963, 33579059, 33583155, 33554491, 33570875, 33574971, 33579067, 33583163, 15, 115, 1048691, 268443695, 402661423, 134225967, 8239, 536879151, 1610620975, 1073750063, 2147491887, 2684362799, 3221233711, 3758104623]
def wordT (op : Nat) : Nat := if 77 ≤ op then wordL.getD (op - 12) 0 + 4096 else wordL.getD (op - 1) 0
abbrev arU (l : List Nat) : List V := l.map U32
set_option maxRecDepth 4000 in
theorem words4_f : fillParts [(.sc (.int .u32 (0))), (.sc (.int .u32 (0))), (.sc (.int .u32 (0))), (.sc (.int .u32 (0))), (.sc (.int .u32 (0))), (.sc (.int .u32 (0))), (.sc (.int .u32 (0))), (.sc (.int .u32 (0))), (.sc (.int .u32 (0))), (.sc (.int .u32 (0))), (.sc (.int .u32 (0))), (.sc (.int .u32 (0))), (.sc (.int .u32 (0))), (.sc (.int .u32 (0))), (.sc (.int .u32 (0))), (.sc (.int .u32 (0))), (.sc (.int .u32 (0))), (.sc (.int .u32 (0))), (.sc (.int .u32 (0))), (.sc (.int .u32 (0))), (.sc (.int .u32 (0))), (.sc (.int .u32 (0))), (.sc (.int .u32 (0))), (.sc (.int .u32 (0))), (.sc (.int .u32 (0))), (.sc (.int .u32 (0))), (.sc (.int .u32 (0))), (.sc (.int .u32 (0))), (.sc (.int .u32 (0))), (.sc (.int .u32 (0))), (.sc (.int .u32 (0))), (.sc (.int .u32 (0))), (.sc (.int .u32 (0))), (.sc (.int .u32 (0))), (.sc (.int .u32 (0))), (.sc (.int .u32 (0))), (.sc (.int .u32 (0))), (.sc (.int .u32 (0))), (.sc (.int .u32 (0))), (.sc (.int .u32 (0))), (.sc (.int .u32 (0))), (.sc (.int .u32 (0))), (.sc (.int .u32 (0))), (.sc (.int .u32 (0))), (.sc (.int .u32 (0))), (.sc (.int .u32 (0))), (.sc (.int .u32 (0))), (.sc (.int .u32 (0))), (.sc (.int .u32 (0))), (.sc (.int .u32 (0))), (.sc (.int .u32 (0))), (.sc (.int .u32 (0))), (.sc (.int .u32 (0))), (.sc (.int .u32 (0))), (.sc (.int .u32 (0))), (.sc (.int .u32 (0))), (.sc (.int .u32 (0))), (.sc (.int .u32 (0))), (.sc (.int .u32 (0))), (.sc (.int .u32 (0))), (.sc (.int .u32 (0))), (.sc (.int .u32 (0))), (.sc (.int .u32 (0))), (.sc (.int .u32 (0))), (.sc (.int .u32 (0))), (.sc (.int .u32 (0))), (.sc (.int .u32 (0))), (.sc (.int .u32 (0))), (.sc (.int .u32 (0))), (.sc (.int .u32 (0))), (.sc (.int .u32 (0))), (.sc (.int .u32 (0))), (.sc (.int .u32 (0))), (.sc (.int .u32 (0))), (.sc (.int .u32 (0))), (.sc (.int .u32 (0)))] [(0, 1, ((.sc (.int .u32 (55))))), (1, 1, ((.sc (.int .u32 (23))))), (2, 1, ((.sc (.int .u32 (111))))), (3, 1, ((.sc (.int .u32 (103))))), (4, 1, ((.sc (.int .u32 (99))))), (5, 1, ((.sc (.int .u32 (4195))))), (6, 1, ((.sc (.int .u32 (16483))))), (7, 1, ((.sc (.int .u32 (20579))))), (8, 1, ((.sc (.int .u32 (24675))))), (9, 1, ((.sc (.int .u32 (28771))))), (10, 1, ((.sc (.int .u32 (3))))), (11, 1, ((.sc (.int .u32 (4099))))), (12, 1, ((.sc (.int .u32 (8195))))), (13, 1, ((.sc (.int .u32 (12291))))), (14, 1, ((.sc (.int .u32 (16387))))), (15, 1, ((.sc (.int .u32 (20483))))), (16, 1, ((.sc (.int .u32 (24579))))), (17, 1, ((.sc (.int .u32 (35))))), (18, 1, ((.sc (.int .u32 (4131))))), (19, 1, ((.sc (.int .u32 (8227))))), (20, 1, ((.sc (.int .u32 (12323))))), (21, 1, ((.sc (.int .u32 (19))))), (22, 1, ((.sc (.int .u32 (8211))))), (23, 1, ((.sc (.int .u32 (12307))))), (24, 1, ((.sc (.int .u32 (16403))))), (25, 1, ((.sc (.int .u32 (24595))))), (26, 1, ((.sc (.int .u32 (28691))))), (27, 1, ((.sc (.int .u32 (4115))))), (28, 1, ((.sc (.int .u32 (20499))))), (29, 1, ((.sc (.int .u32 (1073762323))))), (30, 1, ((.sc (.int .u32 (27))))), (31, 1, ((.sc (.int .u32 (4123))))), (32, 1, ((.sc (.int .u32 (20507))))), (33, 1, ((.sc (.int .u32 (1073762331))))), (34, 1, ((.sc (.int .u32 (51))))), (35, 1, ((.sc (.int .u32 (1073741875))))), (36, 1, ((.sc (.int .u32 (4147))))), (37, 1, ((.sc (.int .u32 (8243))))), (38, 1, ((.sc (.int .u32 (12339))))), (39, 1, ((.sc (.int .u32 (16435))))), (40, 1, ((.sc (.int .u32 (20531))))), (41, 1, ((.sc (.int .u32 (1073762355))))), (42, 1, ((.sc (.int .u32 (24627))))), (43, 1, ((.sc (.int .u32 (28723))))), (44, 1, ((.sc (.int .u32 (59))))), (45, 1, ((.sc (.int .u32 (1073741883))))), (46, 1, ((.sc (.int .u32 (4155))))), (47, 1, ((.sc (.int .u32 (20539))))), (48, 1, ((.sc (.int .u32 (1073762363))))), (49, 1, ((.sc (.int .u32 (33554483))))), (50, 1, ((.sc (.int .u32 (33558579))))), (51, 1, ((.sc (.int .u32 (33562675))))), (52, 1, ((.sc (.int .u32 (33566771))))), (53, 1, ((.sc (.int .u32 (33570867))))), (54, 1, ((.sc (.int .u32 (33574963))))), (55, 1, ((.sc (.int .u32 (33579059))))), (56, 1, ((.sc (.int .u32 (33583155))))), (57, 1, ((.sc (.int .u32 (33554491))))), (58, 1, ((.sc (.int .u32 (33570875))))), (59, 1, ((.sc (.int .u32 (33574971))))), (60, 1, ((.sc (.int .u32 (33579067))))), (61, 1, ((.sc (.int .u32 (33583163))))), (62, 1, ((.sc (.int .u32 (15))))), (63, 1, ((.sc (.int .u32 (115))))), (64, 1, ((.sc (.int .u32 (1048691))))), (65, 1, ((.sc (.int .u32 (268443695))))), (66, 1, ((.sc (.int .u32 (402661423))))), (67, 1, ((.sc (.int .u32 (134225967))))), (68, 1, ((.sc (.int .u32 (8239))))), (69, 1, ((.sc (.int .u32 (536879151))))), (70, 1, ((.sc (.int .u32 (1610620975))))), (71, 1, ((.sc (.int .u32 (1073750063))))), (72, 1, ((.sc (.int .u32 (2147491887))))), (73, 1, ((.sc (.int .u32 (2684362799))))), (74, 1, ((.sc (.int .u32 (3221233711))))), (75, 1, ((.sc (.int .u32 (3758104623)))))] = some (arU wordL) := by kernel_rfl
theorem FrzU {h : Heap} {b : Nat} (l : List Nat) {Q : List V → Prop} : FrzL h b (arU l) Q ↔ Q (arU l) := by
  induction l generalizing Q with
  | nil => exact FrzL_nili
  | cons x r ih =>
    show FrzL h b (U32 x :: arU r) Q ↔ _
    rw [FrzL_consi, Frz_sci, ih]; rfl
theorem wordL_one : (arU wordL).all zm = true := rfl
theorem arrV_load {h : Heap} {t : TypeId} {l : List V} {i : Nat} (hi : i < l.length) : zl (h ++ [.row t 1 0 (l.map fun x => [x])]) none (.rptr h.length 0 0 i) = some l[i] := by
  have e0 : (l.map fun x => [x])[0]? = some [l[0]] := by
    rw [List.getElem?_map, List.getElem?_eq_getElem (by omega)]; rfl
  simp only [zl, rowAt, at_new, if_true, e0, Option.bind_some, Option.getD_none, List.length_cons, List.length_nil, flat1, zb]
  by_cases h0 : i = 0
  · subst h0
    rw [if_pos (Nat.le_refl _)]; rfl
  · rw [if_neg (by omega), List.getElem?_eq_getElem hi]
theorem arrV_loads {h : Heap} {t : TypeId} {l : List V} {n : Nat} (hl : l.length = n) (hn : 1 < n) : zl (h ++ [.row t 1 0 (l.map fun x => [x])]) (some n) (.rptr h.length 0 0 0) = some (.agg l) := by
  have e0 : (l.map fun x => [x])[0]? = some [l[0]] := by
    rw [List.getElem?_map, List.getElem?_eq_getElem (by omega)]; rfl
  simp only [zl, rowAt, at_new, if_true, e0, Option.bind_some, Option.getD_some, List.length_cons, List.length_nil, flat1, zb, List.drop_zero]
  rw [if_neg (by omega), if_pos (by omega), List.take_of_length_le (by omega)]
theorem boxTake {h : Heap} {x : Obj} : (h ++ [x]).take h.length = h := by simp
set_option maxHeartbeats 1000000 in
theorem words4_r {base : Nat} (h : Heap) : WpF S0 base k_spinnakerref04_words [] h fun v h' => v = .agg (arU wordL) ∧ h' = h := by
  obtain ⟨R, es, el⟩ : ∃ R, (∀ zs : List V, zs.length = 76 → storeV h.length (h ++ [.row 90 1 0 (chunk 1 zs)]) 76 (.rptr h.length 0 0 0) (.agg (arU wordL)) = some (h ++ [.row 90 1 0 R])) ∧ zl (h ++ [.row 90 1 0 R]) (some 76) (.rptr h.length 0 0 0) = some (.agg (arU wordL)) := ⟨_, fun zs hz => arr_store (n := 76) (l := arU wordL) hz rfl (by decide) wordL_one, arrV_loads (l := arU wordL) rfl (by decide)⟩
  first | refine zu (A := f_spinnakerref04_words) rfl rfl rfl rfl ?_ | refine zB (A := f_spinnakerref04_words) rfl rfl rfl rfl ?_
  simp only [f_spinnakerref04_words, oD, cD]
  simp only [SQ, SQB, zm, AOp.opds, step, Opd.get, zk, bin, zc, IntKind.signed, zi, zj, zb, unary, ze, zd, za, zo, zr, zh, zf, zg, zp, Cp.isFull, isNil, zq, simprocAttr, -List.reduceReplicate, SQX, V.cells, getParts, words4_f, es, el, boxTake, FrzU]
set_option maxHeartbeats 1000000 in
theorem word4_r {base : Nat} (op : Nat) (h : Heap) (h1 : 1 ≤ op) (h2 : op < 88) : WpF S0 base k_spinnakerref04_Word [V.int op] h fun v h' => v = U32 (wordT op) ∧ h' = h := by
  have hw := fun base h => words4_r (base := base) h
  have hll : (arU wordL).length = 76 := rfl
  obtain ⟨R, es, el⟩ : ∃ R, (∀ zs : List V, zs.length = 76 → storeV h.length (h ++ [.row 90 1 0 (chunk 1 zs)]) 76 (.rptr h.length 0 0 0) (.agg (arU wordL)) = some (h ++ [.row 90 1 0 R])) ∧ ∀ k : Nat, k < 76 → zl (h ++ [.row 90 1 0 R]) none (.rptr h.length 0 0 k) = some (U32 (wordL.getD k 0)) := ⟨_, fun zs hz => arr_store (n := 76) (l := arU wordL) hz rfl (by decide) wordL_one, fun k hk => by
    rw [arrV_load (l := arU wordL) (by omega), List.getElem_map, List.getD_eq_getElem?_getD, List.getElem?_eq_getElem (by rw [List.length_map] at hll; omega)]; rfl⟩
  have hb : ∀ k : Nat, k < 76 → wordL.getD k 0 < 4294967296 - 4096 := by decide
  first | refine zu (A := f_spinnakerref04_Word) rfl rfl rfl rfl ?_ | refine zB (A := f_spinnakerref04_Word) rfl rfl rfl rfl ?_
  simp only [f_spinnakerref04_Word, oD, cD]
  by_cases hc : 77 ≤ op
  · have e1 : IntKind.i64.wrap ((op : Int) - 12) = ((op - 12 : Nat) : Int) := by rw [wrap_i64 (by omega) (by omega)]; omega
    have e2 : IntKind.u32.wrap (((wordL.getD (op - 12) 0 : Nat) : Int) + 4096) = ((wordT op : Nat) : Int) := by
      have := hb (op - 12) (by omega)
      unfold wordT
      rw [if_pos hc, wrap_u32 (by omega) (by omega)]; omega
    simp only [SQ, SQB, zm, AOp.opds, step, Opd.get, zk, bin, zc, IntKind.signed, zi, zj, zb, unary, ze, zd, za, zo, zr, zh, zf, zg, zp, Cp.isFull, isNil, zq, simprocAttr, -List.reduceReplicate, SQX, V.cells, zn (hw _ _), es, show (77 : Int) ≤ op by omega, e1, el (op - 12) (by omega), Nat.mul_one, show op - 12 < 76 by omega, show ((op - 12 : Nat) : Int) < 76 by omega, e2, boxTake]
  · have e1 : IntKind.i64.wrap ((op : Int) - 1) = ((op - 1 : Nat) : Int) := by rw [wrap_i64 (by omega) (by omega)]; omega
    have e2 : wordL.getD (op - 1) 0 = wordT op := by unfold wordT; rw [if_neg hc]
    simp only [SQ, SQB, zm, AOp.opds, step, Opd.get, zk, bin, zc, IntKind.signed, zi, zj, zb, unary, ze, zd, za, zo, zr, zh, zf, zg, zp, Cp.isFull, isNil, zq, simprocAttr, -List.reduceReplicate, SQX, V.cells, zn (hw _ _), es, show ¬ (77 : Int) ≤ op by omega, e1, el (op - 1) (by omega), Nat.mul_one, show op - 1 < 76 by omega, show ((op - 1 : Nat) : Int) < 76 by omega, e2, boxTake]
end
section
def encT (op rd a b : Nat) : Nat := wordT op ||| F rd 0 5 * 128 ||| F a 0 5 * 32768 ||| F b 0 5 * 1048576
def encU (f : Int) (t m : Nat) : Nat :=
  if f = 1 then t ||| F m 0 20 * 4096
  else if f = 2 then t ||| F m 20 1 * 2147483648 ||| F m 1 10 * 2097152 ||| F m 11 1 * 1048576 ||| F m 12 8 * 4096
  else if f = 3 then t ||| F m 0 12 * 1048576
  else if f = 4 then (t &&& 4294963327) ||| F m 12 1 * 2147483648 ||| F m 5 6 * 33554432 ||| F m 1 4 * 256 ||| F m 11 1 * 128
  else if f = 5 then (t &&& 4294963327) ||| F m 5 7 * 33554432 ||| F m 0 5 * 128
  else if f = 7 then t ||| F m 0 6 * 1048576
  else if f = 8 then t ||| F m 0 5 * 1048576
  else if f = 9 then t ||| F m 0 8 * 1048576
  else t
def encR (f : Int) (t m : Nat) (aq rl : Bool) : Nat := if rl then (if aq then encU f t m ||| 67108864 else encU f t m) ||| 33554432 else (if aq then encU f t m ||| 67108864 else encU f t m)
theorem or_lit {a b : Nat} (ha : a < 4294967296) (hb : b < 4294967296) : IntKind.u32.wrap (BitVec.ofInt IntKind.u32.bits (a : Int) ||| BitVec.ofInt IntKind.u32.bits (b : Int)).toNat = ((a ||| b : Nat) : Int) := or_u32 ha hb
theorem or_lit2 {a : Nat} (ha : a < 4294967296) : IntKind.u32.wrap (BitVec.ofInt IntKind.u32.bits (a : Int) ||| BitVec.ofInt IntKind.u32.bits 67108864).toNat = ((a ||| 67108864 : Nat) : Int) := or_u32 (b := 67108864) ha (by decide)
theorem or_lit3 {a : Nat} (ha : a < 4294967296) : IntKind.u32.wrap (BitVec.ofInt IntKind.u32.bits (a : Int) ||| BitVec.ofInt IntKind.u32.bits 33554432).toNat = ((a ||| 33554432 : Nat) : Int) := or_u32 (b := 33554432) ha (by decide)
theorem or_lt {a b : Nat} (ha : a < 4294967296) (hb : b < 4294967296) : (a ||| b < 4294967296) = True := eq_true (Nat.or_lt_two_pow (n := 32) ha hb)
theorem and_lt {a b : Nat} (ha : a < 4294967296) : (a &&& b < 4294967296) = True := eq_true (Nat.lt_of_le_of_lt Nat.and_le_left ha)
theorem F_lt32 {m a n k : Nat} (h : 2 ^ n * k ≤ 4294967296) (hk : 0 < k) : (F m a n * k < 4294967296) = True := by
  have h1 := F_lt m a n
  have := Nat.mul_lt_mul_of_pos_right h1 hk
  exact eq_true (by omega)
theorem andNot_lit {a : Nat} (ha : a < 4294967296) : IntKind.u32.wrap (BitVec.ofInt IntKind.u32.bits (a : Int) &&& ~~~ BitVec.ofInt IntKind.u32.bits 3968).toNat = ((a &&& 4294963327 : Nat) : Int) := by
  have e : (~~~ BitVec.ofInt IntKind.u32.bits 3968).toNat = 4294963327 := by decide
  rw [BitVec.toNat_and, ofInt32, Nat.mod_eq_of_lt ha, e, wrapN_u32, Nat.mod_eq_of_lt (Nat.lt_of_le_of_lt Nat.and_le_left ha)]
theorem wordT_lt : ∀ op : Nat, op < 88 → wordT op < 4294967296 := by decide
set_option maxHeartbeats 4000000 in
theorem enc4_r {base : Nat} (op : Nat) (rd a b i : Int) (aq rl : Bool) (h : Heap) (h1 : 1 ≤ op) (h2 : op < 88) : WpF S0 base k_spinnakerref04_Encode [ins op rd a b i aq rl] h fun v h' => v = U32 (encR (formI op) (encT op (uN rd) (uN a) (uN b)) (uN i) aq rl) ∧ h' = h := by
  have hw := fun base h => word4_r (base := base) op h h1 h2
  have hF := fun base h => form3_r (base := base) op h
  have hl := wordT_lt op h2
  have grd : ∀ base h, WpF S0 base k_spinnakerref04_bits [.sc (.int .i64 rd), .sc (.int .i64 0), .sc (.int .i64 5), .sc (.int .i64 7)] h fun v h' => v = U32 (F (uN rd) 0 5 * 128) ∧ h' = h := fun base h => rbits4_r rd 0 5 7 h (by decide) (by decide) (by decide)
  have ga : ∀ base h, WpF S0 base k_spinnakerref04_bits [.sc (.int .i64 a), .sc (.int .i64 0), .sc (.int .i64 5), .sc (.int .i64 15)] h fun v h' => v = U32 (F (uN a) 0 5 * 32768) ∧ h' = h := fun base h => rbits4_r a 0 5 15 h (by decide) (by decide) (by decide)
  have gb : ∀ base h, WpF S0 base k_spinnakerref04_bits [.sc (.int .i64 b), .sc (.int .i64 0), .sc (.int .i64 5), .sc (.int .i64 20)] h fun v h' => v = U32 (F (uN b) 0 5 * 1048576) ∧ h' = h := fun base h => rbits4_r b 0 5 20 h (by decide) (by decide) (by decide)
  have m0 : ∀ base h, WpF S0 base k_spinnakerref04_bits [.sc (.int .i64 i), .sc (.int .i64 0), .sc (.int .i64 20), .sc (.int .i64 12)] h fun v h' => v = U32 (F (uN i) 0 20 * 4096) ∧ h' = h := fun base h => rbits4_r i 0 20 12 h (by decide) (by decide) (by decide)
  have m1 : ∀ base h, WpF S0 base k_spinnakerref04_bits [.sc (.int .i64 i), .sc (.int .i64 20), .sc (.int .i64 1), .sc (.int .i64 31)] h fun v h' => v = U32 (F (uN i) 20 1 * 2147483648) ∧ h' = h := fun base h => rbits4_r i 20 1 31 h (by decide) (by decide) (by decide)
  have m2 : ∀ base h, WpF S0 base k_spinnakerref04_bits [.sc (.int .i64 i), .sc (.int .i64 1), .sc (.int .i64 10), .sc (.int .i64 21)] h fun v h' => v = U32 (F (uN i) 1 10 * 2097152) ∧ h' = h := fun base h => rbits4_r i 1 10 21 h (by decide) (by decide) (by decide)
  have m3 : ∀ base h, WpF S0 base k_spinnakerref04_bits [.sc (.int .i64 i), .sc (.int .i64 11), .sc (.int .i64 1), .sc (.int .i64 20)] h fun v h' => v = U32 (F (uN i) 11 1 * 1048576) ∧ h' = h := fun base h => rbits4_r i 11 1 20 h (by decide) (by decide) (by decide)
  have m4 : ∀ base h, WpF S0 base k_spinnakerref04_bits [.sc (.int .i64 i), .sc (.int .i64 12), .sc (.int .i64 8), .sc (.int .i64 12)] h fun v h' => v = U32 (F (uN i) 12 8 * 4096) ∧ h' = h := fun base h => rbits4_r i 12 8 12 h (by decide) (by decide) (by decide)
  have m5 : ∀ base h, WpF S0 base k_spinnakerref04_bits [.sc (.int .i64 i), .sc (.int .i64 0), .sc (.int .i64 12), .sc (.int .i64 20)] h fun v h' => v = U32 (F (uN i) 0 12 * 1048576) ∧ h' = h := fun base h => rbits4_r i 0 12 20 h (by decide) (by decide) (by decide)
  have m6 : ∀ base h, WpF S0 base k_spinnakerref04_bits [.sc (.int .i64 i), .sc (.int .i64 12), .sc (.int .i64 1), .sc (.int .i64 31)] h fun v h' => v = U32 (F (uN i) 12 1 * 2147483648) ∧ h' = h := fun base h => rbits4_r i 12 1 31 h (by decide) (by decide) (by decide)
  have m7 : ∀ base h, WpF S0 base k_spinnakerref04_bits [.sc (.int .i64 i), .sc (.int .i64 5), .sc (.int .i64 6), .sc (.int .i64 25)] h fun v h' => v = U32 (F (uN i) 5 6 * 33554432) ∧ h' = h := fun base h => rbits4_r i 5 6 25 h (by decide) (by decide) (by decide)
  have m8 : ∀ base h, WpF S0 base k_spinnakerref04_bits [.sc (.int .i64 i), .sc (.int .i64 1), .sc (.int .i64 4), .sc (.int .i64 8)] h fun v h' => v = U32 (F (uN i) 1 4 * 256) ∧ h' = h := fun base h => rbits4_r i 1 4 8 h (by decide) (by decide) (by decide)
  have m9 : ∀ base h, WpF S0 base k_spinnakerref04_bits [.sc (.int .i64 i), .sc (.int .i64 11), .sc (.int .i64 1), .sc (.int .i64 7)] h fun v h' => v = U32 (F (uN i) 11 1 * 128) ∧ h' = h := fun base h => rbits4_r i 11 1 7 h (by decide) (by decide) (by decide)
  have m10 : ∀ base h, WpF S0 base k_spinnakerref04_bits [.sc (.int .i64 i), .sc (.int .i64 5), .sc (.int .i64 7), .sc (.int .i64 25)] h fun v h' => v = U32 (F (uN i) 5 7 * 33554432) ∧ h' = h := fun base h => rbits4_r i 5 7 25 h (by decide) (by decide) (by decide)
  have m11 : ∀ base h, WpF S0 base k_spinnakerref04_bits [.sc (.int .i64 i), .sc (.int .i64 0), .sc (.int .i64 5), .sc (.int .i64 7)] h fun v h' => v = U32 (F (uN i) 0 5 * 128) ∧ h' = h := fun base h => rbits4_r i 0 5 7 h (by decide) (by decide) (by decide)
  have m12 : ∀ base h, WpF S0 base k_spinnakerref04_bits [.sc (.int .i64 i), .sc (.int .i64 0), .sc (.int .i64 6), .sc (.int .i64 20)] h fun v h' => v = U32 (F (uN i) 0 6 * 1048576) ∧ h' = h := fun base h => rbits4_r i 0 6 20 h (by decide) (by decide) (by decide)
  have m13 : ∀ base h, WpF S0 base k_spinnakerref04_bits [.sc (.int .i64 i), .sc (.int .i64 0), .sc (.int .i64 5), .sc (.int .i64 20)] h fun v h' => v = U32 (F (uN i) 0 5 * 1048576) ∧ h' = h := fun base h => rbits4_r i 0 5 20 h (by decide) (by decide) (by decide)
  have m14 : ∀ base h, WpF S0 base k_spinnakerref04_bits [.sc (.int .i64 i), .sc (.int .i64 0), .sc (.int .i64 8), .sc (.int .i64 20)] h fun v h' => v = U32 (F (uN i) 0 8 * 1048576) ∧ h' = h := fun base h => rbits4_r i 0 8 20 h (by decide) (by decide) (by decide)
  have mm : ∀ base h, WpF S0 base k_spinnakerref04_bits [.sc (.int .i64 (-1)), .sc (.int .i64 0), .sc (.int .i64 5), .sc (.int .i64 7)] h fun v h' => v = .sc (.int .u32 3968) ∧ h' = h := fun base h => rbits4_r (-1) 0 5 7 h (by decide) (by decide) (by decide)
  unfold encR encU encT
  generalize formI op = f at *
  generalize wordT op = t at *
  have u0 : (t ||| (F (uN rd) 0 5 * 128)) < 4294967296 := Nat.or_lt_two_pow (n := 32) hl (of_eq_true (F_lt32 (m := (uN rd)) (a := 0) (by decide) (by decide)))
  have u1 : ((t ||| (F (uN rd) 0 5 * 128)) ||| (F (uN a) 0 5 * 32768)) < 4294967296 := Nat.or_lt_two_pow (n := 32) u0 (of_eq_true (F_lt32 (m := (uN a)) (a := 0) (by decide) (by decide)))
  have u2 : (((t ||| (F (uN rd) 0 5 * 128)) ||| (F (uN a) 0 5 * 32768)) ||| (F (uN b) 0 5 * 1048576)) < 4294967296 := Nat.or_lt_two_pow (n := 32) u1 (of_eq_true (F_lt32 (m := (uN b)) (a := 0) (by decide) (by decide)))
  have u3 : ((((t ||| (F (uN rd) 0 5 * 128)) ||| (F (uN a) 0 5 * 32768)) ||| (F (uN b) 0 5 * 1048576)) ||| (F (uN i) 0 20 * 4096)) < 4294967296 := Nat.or_lt_two_pow (n := 32) u2 (of_eq_true (F_lt32 (m := (uN i)) (a := 0) (by decide) (by decide)))
  have u4 : ((((t ||| (F (uN rd) 0 5 * 128)) ||| (F (uN a) 0 5 * 32768)) ||| (F (uN b) 0 5 * 1048576)) ||| (F (uN i) 20 1 * 2147483648)) < 4294967296 := Nat.or_lt_two_pow (n := 32) u2 (of_eq_true (F_lt32 (m := (uN i)) (a := 20) (by decide) (by decide)))
  have u5 : (((((t ||| (F (uN rd) 0 5 * 128)) ||| (F (uN a) 0 5 * 32768)) ||| (F (uN b) 0 5 * 1048576)) ||| (F (uN i) 20 1 * 2147483648)) ||| (F (uN i) 1 10 * 2097152)) < 4294967296 := Nat.or_lt_two_pow (n := 32) u4 (of_eq_true (F_lt32 (m := (uN i)) (a := 1) (by decide) (by decide)))
  have u6 : ((((((t ||| (F (uN rd) 0 5 * 128)) ||| (F (uN a) 0 5 * 32768)) ||| (F (uN b) 0 5 * 1048576)) ||| (F (uN i) 20 1 * 2147483648)) ||| (F (uN i) 1 10 * 2097152)) ||| (F (uN i) 11 1 * 1048576)) < 4294967296 := Nat.or_lt_two_pow (n := 32) u5 (of_eq_true (F_lt32 (m := (uN i)) (a := 11) (by decide) (by decide)))
  have u7 : (((((((t ||| (F (uN rd) 0 5 * 128)) ||| (F (uN a) 0 5 * 32768)) ||| (F (uN b) 0 5 * 1048576)) ||| (F (uN i) 20 1 * 2147483648)) ||| (F (uN i) 1 10 * 2097152)) ||| (F (uN i) 11 1 * 1048576)) ||| (F (uN i) 12 8 * 4096)) < 4294967296 := Nat.or_lt_two_pow (n := 32) u6 (of_eq_true (F_lt32 (m := (uN i)) (a := 12) (by decide) (by decide)))
  have u8 : ((((t ||| (F (uN rd) 0 5 * 128)) ||| (F (uN a) 0 5 * 32768)) ||| (F (uN b) 0 5 * 1048576)) ||| (F (uN i) 0 12 * 1048576)) < 4294967296 := Nat.or_lt_two_pow (n := 32) u2 (of_eq_true (F_lt32 (m := (uN i)) (a := 0) (by decide) (by decide)))
  have u9 : ((((t ||| (F (uN rd) 0 5 * 128)) ||| (F (uN a) 0 5 * 32768)) ||| (F (uN b) 0 5 * 1048576)) &&& 4294963327) < 4294967296 := Nat.lt_of_le_of_lt Nat.and_le_left u2
  have u10 : (((((t ||| (F (uN rd) 0 5 * 128)) ||| (F (uN a) 0 5 * 32768)) ||| (F (uN b) 0 5 * 1048576)) &&& 4294963327) ||| (F (uN i) 12 1 * 2147483648)) < 4294967296 := Nat.or_lt_two_pow (n := 32) u9 (of_eq_true (F_lt32 (m := (uN i)) (a := 12) (by decide) (by decide)))
  have u11 : ((((((t ||| (F (uN rd) 0 5 * 128)) ||| (F (uN a) 0 5 * 32768)) ||| (F (uN b) 0 5 * 1048576)) &&& 4294963327) ||| (F (uN i) 12 1 * 2147483648)) ||| (F (uN i) 5 6 * 33554432)) < 4294967296 := Nat.or_lt_two_pow (n := 32) u10 (of_eq_true (F_lt32 (m := (uN i)) (a := 5) (by decide) (by decide)))
  have u12 : (((((((t ||| (F (uN rd) 0 5 * 128)) ||| (F (uN a) 0 5 * 32768)) ||| (F (uN b) 0 5 * 1048576)) &&& 4294963327) ||| (F (uN i) 12 1 * 2147483648)) ||| (F (uN i) 5 6 * 33554432)) ||| (F (uN i) 1 4 * 256)) < 4294967296 := Nat.or_lt_two_pow (n := 32) u11 (of_eq_true (F_lt32 (m := (uN i)) (a := 1) (by decide) (by decide)))
  have u13 : ((((((((t ||| (F (uN rd) 0 5 * 128)) ||| (F (uN a) 0 5 * 32768)) ||| (F (uN b) 0 5 * 1048576)) &&& 4294963327) ||| (F (uN i) 12 1 * 2147483648)) ||| (F (uN i) 5 6 * 33554432)) ||| (F (uN i) 1 4 * 256)) ||| (F (uN i) 11 1 * 128)) < 4294967296 := Nat.or_lt_two_pow (n := 32) u12 (of_eq_true (F_lt32 (m := (uN i)) (a := 11) (by decide) (by decide)))
  have u14 : ((((t ||| (F (uN rd) 0 5 * 128)) ||| (F (uN a) 0 5 * 32768)) ||| (F (uN b) 0 5 * 1048576)) &&& 4294963327) < 4294967296 := Nat.lt_of_le_of_lt Nat.and_le_left u2
  have u15 : (((((t ||| (F (uN rd) 0 5 * 128)) ||| (F (uN a) 0 5 * 32768)) ||| (F (uN b) 0 5 * 1048576)) &&& 4294963327) ||| (F (uN i) 5 7 * 33554432)) < 4294967296 := Nat.or_lt_two_pow (n := 32) u14 (of_eq_true (F_lt32 (m := (uN i)) (a := 5) (by decide) (by decide)))
  have u16 : ((((((t ||| (F (uN rd) 0 5 * 128)) ||| (F (uN a) 0 5 * 32768)) ||| (F (uN b) 0 5 * 1048576)) &&& 4294963327) ||| (F (uN i) 5 7 * 33554432)) ||| (F (uN i) 0 5 * 128)) < 4294967296 := Nat.or_lt_two_pow (n := 32) u15 (of_eq_true (F_lt32 (m := (uN i)) (a := 0) (by decide) (by decide)))
  have u17 : ((((t ||| (F (uN rd) 0 5 * 128)) ||| (F (uN a) 0 5 * 32768)) ||| (F (uN b) 0 5 * 1048576)) ||| (F (uN i) 0 6 * 1048576)) < 4294967296 := Nat.or_lt_two_pow (n := 32) u2 (of_eq_true (F_lt32 (m := (uN i)) (a := 0) (by decide) (by decide)))
  have u18 : ((((t ||| (F (uN rd) 0 5 * 128)) ||| (F (uN a) 0 5 * 32768)) ||| (F (uN b) 0 5 * 1048576)) ||| (F (uN i) 0 5 * 1048576)) < 4294967296 := Nat.or_lt_two_pow (n := 32) u2 (of_eq_true (F_lt32 (m := (uN i)) (a := 0) (by decide) (by decide)))
  have u19 : ((((t ||| (F (uN rd) 0 5 * 128)) ||| (F (uN a) 0 5 * 32768)) ||| (F (uN b) 0 5 * 1048576)) ||| (F (uN i) 0 8 * 1048576)) < 4294967296 := Nat.or_lt_two_pow (n := 32) u2 (of_eq_true (F_lt32 (m := (uN i)) (a := 0) (by decide) (by decide)))
  have u20 : ((((t ||| (F (uN rd) 0 5 * 128)) ||| (F (uN a) 0 5 * 32768)) ||| (F (uN b) 0 5 * 1048576)) ||| 67108864) < 4294967296 := Nat.or_lt_two_pow (n := 32) u2 (by decide)
  have u21 : (((((t ||| (F (uN rd) 0 5 * 128)) ||| (F (uN a) 0 5 * 32768)) ||| (F (uN b) 0 5 * 1048576)) ||| (F (uN i) 0 20 * 4096)) ||| 67108864) < 4294967296 := Nat.or_lt_two_pow (n := 32) u3 (by decide)
  have u22 : ((((((((t ||| (F (uN rd) 0 5 * 128)) ||| (F (uN a) 0 5 * 32768)) ||| (F (uN b) 0 5 * 1048576)) ||| (F (uN i) 20 1 * 2147483648)) ||| (F (uN i) 1 10 * 2097152)) ||| (F (uN i) 11 1 * 1048576)) ||| (F (uN i) 12 8 * 4096)) ||| 67108864) < 4294967296 := Nat.or_lt_two_pow (n := 32) u7 (by decide)
  have u23 : (((((t ||| (F (uN rd) 0 5 * 128)) ||| (F (uN a) 0 5 * 32768)) ||| (F (uN b) 0 5 * 1048576)) ||| (F (uN i) 0 12 * 1048576)) ||| 67108864) < 4294967296 := Nat.or_lt_two_pow (n := 32) u8 (by decide)
  have u24 : (((((((((t ||| (F (uN rd) 0 5 * 128)) ||| (F (uN a) 0 5 * 32768)) ||| (F (uN b) 0 5 * 1048576)) &&& 4294963327) ||| (F (uN i) 12 1 * 2147483648)) ||| (F (uN i) 5 6 * 33554432)) ||| (F (uN i) 1 4 * 256)) ||| (F (uN i) 11 1 * 128)) ||| 67108864) < 4294967296 := Nat.or_lt_two_pow (n := 32) u13 (by decide)
  have u25 : (((((((t ||| (F (uN rd) 0 5 * 128)) ||| (F (uN a) 0 5 * 32768)) ||| (F (uN b) 0 5 * 1048576)) &&& 4294963327) ||| (F (uN i) 5 7 * 33554432)) ||| (F (uN i) 0 5 * 128)) ||| 67108864) < 4294967296 := Nat.or_lt_two_pow (n := 32) u16 (by decide)
  have u26 : (((((t ||| (F (uN rd) 0 5 * 128)) ||| (F (uN a) 0 5 * 32768)) ||| (F (uN b) 0 5 * 1048576)) ||| (F (uN i) 0 6 * 1048576)) ||| 67108864) < 4294967296 := Nat.or_lt_two_pow (n := 32) u17 (by decide)
  have u27 : (((((t ||| (F (uN rd) 0 5 * 128)) ||| (F (uN a) 0 5 * 32768)) ||| (F (uN b) 0 5 * 1048576)) ||| (F (uN i) 0 5 * 1048576)) ||| 67108864) < 4294967296 := Nat.or_lt_two_pow (n := 32) u18 (by decide)
  have u28 : (((((t ||| (F (uN rd) 0 5 * 128)) ||| (F (uN a) 0 5 * 32768)) ||| (F (uN b) 0 5 * 1048576)) ||| (F (uN i) 0 8 * 1048576)) ||| 67108864) < 4294967296 := Nat.or_lt_two_pow (n := 32) u19 (by decide)
  first | refine zu (A := f_spinnakerref04_Encode) rfl rfl rfl rfl ?_ | refine zB (A := f_spinnakerref04_Encode) rfl rfl rfl rfl ?_
  simp only [f_spinnakerref04_Encode, oD, cD]
  (simp only [SQ, zm, AOp.opds, step, Opd.get, zk, bin, zc, IntKind.signed, zi, zj, zl, zb, unary, ze, zd, za, zo, zr, zh, zf, zg, zp, Cp.isFull, isNil, zq, simprocAttr, SQX, V.cells, zn (hw _ _), zn (hF _ _), hl, or_lit, or_lit2, or_lit3, F_lt32, andNot_lit, u0, u1, u2, u3, u4, u5, u6, u7, u8, u9, u10, u11, u12, u13, u14, u15, u16, u17, u18, u19, u20, u21, u22, u23, u24, u25, u26, u27, u28, zn (grd _ _), zn (ga _ _), zn (gb _ _), zn (m0 _ _), zn (m1 _ _), zn (m2 _ _), zn (m3 _ _), zn (m4 _ _), zn (m5 _ _), zn (m6 _ _), zn (m7 _ _), zn (m8 _ _), zn (m9 _ _), zn (m10 _ _), zn (m11 _ _), zn (m12 _ _), zn (m13 _ _), zn (m14 _ _), zn (mm _ _)]; repeat' ((first | refine condQ_i ?_ ?_ | refine guardQ_t ?_ ?_ | refine guardQ_f ?_ ?_) <;> (intro hb; simp only [SQ, zm, AOp.opds, step, Opd.get, zk, bin, zc, IntKind.signed, zi, zj, zl, zb, unary, ze, zd, za, zo, zr, zh, zf, zg, zp, Cp.isFull, isNil, zq, simprocAttr, SQX, V.cells, hb, zn (hw _ _), zn (hF _ _), hl, or_lit, or_lit2, or_lit3, F_lt32, andNot_lit, u0, u1, u2, u3, u4, u5, u6, u7, u8, u9, u10, u11, u12, u13, u14, u15, u16, u17, u18, u19, u20, u21, u22, u23, u24, u25, u26, u27, u28, zn (grd _ _), zn (ga _ _), zn (gb _ _), zn (m0 _ _), zn (m1 _ _), zn (m2 _ _), zn (m3 _ _), zn (m4 _ _), zn (m5 _ _), zn (m6 _ _), zn (m7 _ _), zn (m8 _ _), zn (m9 _ _), zn (m10 _ _), zn (m11 _ _), zn (m12 _ _), zn (m13 _ _), zn (m14 _ _), zn (mm _ _)])))
  all_goals clear hw hF mm u0 u1 u2 u3 u4 u5 u6 u7 u8 u9 u10 u11 u12 u13 u14 u15 u16 u17 u18 u19 u20 u21 u22 u23 u24 u25 u26 u27 u28 grd ga gb m0 m1 m2 m3 m4 m5 m6 m7 m8 m9 m10 m11 m12 m13 m14
  all_goals simp_all
end
section
abbrev codeV (a b c : Nat) : V := .agg [U32 a, U32 b, U32 c]
def arithP (o : Int) : Nat × Nat :=
  if o = 22 ∨ o = 31 ∨ o = 35 ∨ o = 45 then (0, 0) else if o = 36 ∨ o = 46 then (0, 32) else if o = 28 ∨ o = 32 ∨ o = 37 ∨ o = 47 then (1, 0) else if o = 23 ∨ o = 38 then (2, 0) else if o = 24 ∨ o = 39 then (3, 0) else if o = 25 ∨ o = 40 then (4, 0) else if o = 29 ∨ o = 33 ∨ o = 41 ∨ o = 48 then (5, 0) else if o = 30 ∨ o = 34 ∨ o = 42 ∨ o = 49 then (5, 32) else if o = 26 ∨ o = 43 then (6, 0) else (7, 0)
theorem fill3 (a b c : Int) : fillParts [.sc (.int .u32 0), .sc (.int .u32 0), .sc (.int .u32 0)] [(0, 1, .sc (.int .u32 a)), (1, 1, .sc (.int .u32 b)), (2, 1, .sc (.int .u32 c))] = some [.sc (.int .u32 a), .sc (.int .u32 b), .sc (.int .u32 c)] := rfl
theorem earith_r {base : Nat} (o : Int) (h : Heap) : WpF S0 base k_enc_arith [.sc (.int .i64 o)] h fun v h' => v = codeV 0 (arithP o).1 (arithP o).2 ∧ h' = h := by
  unfold arithP codeV
  first | refine zu (A := f_enc_arith) rfl rfl rfl rfl ?_ | refine zB (A := f_enc_arith) rfl rfl rfl rfl ?_
  simp only [f_enc_arith, oD, cD]
  (simp only [SQ, zm, AOp.opds, step, Opd.get, zk, bin, zc, IntKind.signed, zi, zj, zb, unary, ze, zd, za, zo, zr, zh, zf, zg, zp, Cp.isFull, isNil, zq, simprocAttr, SQX, V.cells, getParts, fill3, st_new, ld_new, boxTake, Nat.le_refl]; repeat' ((first | refine condQ_i ?_ ?_ | refine guardQ_t ?_ ?_ | refine guardQ_f ?_ ?_) <;> (intro hb; simp only [SQ, zm, AOp.opds, step, Opd.get, zk, bin, zc, IntKind.signed, zi, zj, zb, unary, ze, zd, za, zo, zr, zh, zf, zg, zp, Cp.isFull, isNil, zq, simprocAttr, SQX, V.cells, hb, getParts, fill3, st_new, ld_new, boxTake, Nat.le_refl])))
  all_goals simp_all
theorem ewith_r {base : Nat} (a b c d : Nat) (h : Heap) : WpF S0 base k_enc_code_with [codeV a b c, U32 d] h fun v h' => v = codeV d b c ∧ h' = h := by
  first | refine zu (A := f_enc_code_with) rfl rfl rfl rfl ?_ | refine zB (A := f_enc_code_with) rfl rfl rfl rfl ?_
  simp only [f_enc_code_with, oD, cD]
  simp only [SQ, SQB, zm, AOp.opds, step, Opd.get, zk, bin, zc, IntKind.signed, zi, zj, zl, zb, unary, ze, zd, za, zo, zr, zh, zf, zg, zp, Cp.isFull, isNil, zq, simprocAttr, SQX, V.cells, getParts, fill3, st_new, boxTake, Nat.le_refl, at_new, List.take_succ_cons, List.take_zero]
def timesP (o : Int) : Nat := if o ≤ 57 then (o - 50).toNat else if 58 < o then (o - 59).toNat + 4 else 0
theorem etimes_r {base : Nat} (o : Int) (h : Heap) (h1 : 50 ≤ o) (h2 : o < 63) : WpF S0 base k_enc_times [.sc (.int .i64 o)] h fun v h' => v = codeV 0 (timesP o) 1 ∧ h' = h := by
  unfold timesP codeV
  first | refine zu (A := f_enc_times) rfl rfl rfl rfl ?_ | refine zB (A := f_enc_times) rfl rfl rfl rfl ?_
  simp only [f_enc_times, oD, cD]
  by_cases c1 : o ≤ 57
  · have e1 : IntKind.i64.wrap (o - 50) = o - 50 := wrap_i64 (by omega) (by omega)
    have e2 : IntKind.u32.wrap (o - 50) = ((o - 50).toNat : Int) := by rw [wrap_u32 (by omega) (by omega)]; omega
    simp only [SQ, SQB, zm, AOp.opds, step, Opd.get, zk, bin, zc, IntKind.signed, zi, zj, zl, zb, unary, ze, zd, za, zo, zr, zh, zf, zg, zp, Cp.isFull, isNil, zq, simprocAttr, SQX, V.cells, c1, e1, e2, getParts, fill3, st_new, boxTake, Nat.le_refl, at_new, List.take_succ_cons, List.take_zero]
    rfl
  by_cases c2 : 58 < o
  · have e1 : IntKind.i64.wrap (o - 59) = o - 59 := wrap_i64 (by omega) (by omega)
    have e2 : IntKind.u32.wrap (o - 59) = ((o - 59).toNat : Int) := by rw [wrap_u32 (by omega) (by omega)]; omega
    have e3 : IntKind.u32.wrap (((o - 59).toNat : Int) + 4) = (((o - 59).toNat + 4 : Nat) : Int) := by rw [wrap_u32 (by omega) (by omega)]; omega
    simp only [SQ, SQB, zm, AOp.opds, step, Opd.get, zk, bin, zc, IntKind.signed, zi, zj, zl, zb, unary, ze, zd, za, zo, zr, zh, zf, zg, zp, Cp.isFull, isNil, zq, simprocAttr, SQX, V.cells, c1, c2, e1, e2, e3, getParts, fill3, st_new, boxTake, Nat.le_refl, at_new, List.take_succ_cons, List.take_zero]
    rfl
  · simp only [SQ, SQB, zm, AOp.opds, step, Opd.get, zk, bin, zc, IntKind.signed, zi, zj, zl, zb, unary, ze, zd, za, zo, zr, zh, zf, zg, zp, Cp.isFull, isNil, zq, simprocAttr, SQX, V.cells, c1, c2, getParts, fill3, st_new, boxTake, Nat.le_refl, at_new, List.take_succ_cons, List.take_zero]
    simp [c1, c2]
theorem arr_storeB {base : Nat} {h : Heap} {t : TypeId} {zs l : List V} {n : Nat} (hz : zs.length = n) (hl : l.length = n) (hn : 1 < n) (ho : l.all zm = true) (hB : base ≤ h.length) : storeV base (h ++ [.row t 1 0 (chunk 1 zs)]) n (.rptr h.length 0 0 0) (.agg l) = some (h ++ [.row t 1 0 (l.map fun x => [x])]) := by
  unfold storeV
  obtain ⟨z, r, rfl⟩ : ∃ z r, zs = z :: r := by
    cases zs with
    | nil => simp at hz; omega
    | cons z r => exact ⟨z, r, rfl⟩
  have e1 : ¬ (0 + n ≤ 0 + 1 ∧ mayStore base h.length l = true) := by omega
  have e2 : mayStore base h.length l = true := by simp [mayStore, hB]
  rw [if_pos ⟨hl, ho⟩]
  simp only [at_new, chunk1, List.map_cons, List.getElem?_cons_zero, V.cells, List.length_cons, List.length_nil]
  rw [if_pos trivial, if_neg e1, if_pos ⟨trivial, by rw [← List.map_cons (f := fun x => [x]), flat1]; omega, e2⟩, set_new, ← List.map_cons (f := fun x => [x]), flat1, putAllW (by omega)]
def f5L : List Nat := [2, 3, 1, 0, 4, 12, 8, 16, 20, 24, 28]
theorem f5_fill : fillParts [(.sc (.int .u32 (0))), (.sc (.int .u32 (0))), (.sc (.int .u32 (0))), (.sc (.int .u32 (0))), (.sc (.int .u32 (0))), (.sc (.int .u32 (0))), (.sc (.int .u32 (0))), (.sc (.int .u32 (0))), (.sc (.int .u32 (0))), (.sc (.int .u32 (0))), (.sc (.int .u32 (0)))] [(0, 1, ((.sc (.int .u32 (2))))), (1, 1, ((.sc (.int .u32 (3))))), (2, 1, ((.sc (.int .u32 (1))))), (3, 1, ((.sc (.int .u32 (0))))), (4, 1, ((.sc (.int .u32 (4))))), (5, 1, ((.sc (.int .u32 (12))))), (6, 1, ((.sc (.int .u32 (8))))), (7, 1, ((.sc (.int .u32 (16))))), (8, 1, ((.sc (.int .u32 (20))))), (9, 1, ((.sc (.int .u32 (24))))), (10, 1, ((.sc (.int .u32 (28)))))] = some (arU f5L) := rfl
set_option maxHeartbeats 1000000 in
theorem eatomic_r {base : Nat} (op : Nat) (h : Heap) (h1 : 66 ≤ op) (h2 : op < 88) : WpF S0 base k_enc_atomic [V.int op] h fun v h' => v = (if 77 ≤ op then codeV 47 3 (f5L.getD (op - 77) 0 * 4) else codeV 47 2 (f5L.getD (op - 66) 0 * 4)) ∧ h' = h := by
  have hll : (arU f5L).length = 11 := rfl
  have hb : ∀ k : Nat, k < 11 → f5L.getD k 0 < 32 := by decide
  obtain ⟨R, es, el⟩ : ∃ R, (∀ zs : List V, zs.length = 11 → ∀ (b : Obj), storeV h.length (h ++ [b] ++ [.row 145 1 0 (chunk 1 zs)]) 11 (.rptr (h ++ [b]).length 0 0 0) (.agg (arU f5L)) = some (h ++ [b] ++ [.row 145 1 0 R])) ∧ ∀ (b : Obj) (k : Nat), k < 11 → zl (h ++ [b] ++ [.row 145 1 0 R]) none (.rptr (h ++ [b]).length 0 0 k) = some (U32 (f5L.getD k 0)) := ⟨_, fun zs hz b => arr_storeB (n := 11) (l := arU f5L) hz rfl (by decide) rfl (by simp), fun b k hk => by
    rw [arrV_load (l := arU f5L) (by omega), List.getElem_map, List.getD_eq_getElem?_getD, List.getElem?_eq_getElem (by rw [List.length_map] at hll; omega)]; rfl⟩
  first | refine zu (A := f_enc_atomic) rfl rfl rfl rfl ?_ | refine zB (A := f_enc_atomic) rfl rfl rfl rfl ?_
  simp only [f_enc_atomic, oD, cD]
  by_cases hc : 77 ≤ op
  · have e1 : IntKind.i64.wrap ((op : Int) - 77) = ((op - 77 : Nat) : Int) := by rw [wrap_i64 (by omega) (by omega)]; omega
    have := hb (op - 77) (by omega)
    have e2 : IntKind.u32.wrap (((f5L.getD (op - 77) 0 : Nat) : Int) * 2 ^ min 2 IntKind.u32.bits) = ((f5L.getD (op - 77) 0 * 4 : Nat) : Int) := by
      rw [show (2 : Int) ^ min 2 IntKind.u32.bits = 4 from rfl, wrap_u32 (by omega) (by omega)]; omega
    rw [if_pos hc]
    simp only [SQ, SQB, zm, AOp.opds, step, Opd.get, zk, bin, zc, IntKind.signed, zi, zj, zb, unary, ze, zd, za, zo, zr, zh, zf, zg, zp, Cp.isFull, isNil, zq, simprocAttr, SQX, V.cells, f5_fill, es, el _ (op - 77) (by omega), show (77 : Int) ≤ op by omega, e1, Nat.mul_one, show op - 77 < 11 by omega, show ((op - 77 : Nat) : Int) < 11 by omega, e2, getParts, fill3, st_prev, ld_prev, take_two, Nat.le_refl]
    rfl
  · have e1 : IntKind.i64.wrap ((op : Int) - 66) = ((op - 66 : Nat) : Int) := by rw [wrap_i64 (by omega) (by omega)]; omega
    have := hb (op - 66) (by omega)
    have e2 : IntKind.u32.wrap (((f5L.getD (op - 66) 0 : Nat) : Int) * 2 ^ min 2 IntKind.u32.bits) = ((f5L.getD (op - 66) 0 * 4 : Nat) : Int) := by
      rw [show (2 : Int) ^ min 2 IntKind.u32.bits = 4 from rfl, wrap_u32 (by omega) (by omega)]; omega
    rw [if_neg hc]
    simp only [SQ, SQB, zm, AOp.opds, step, Opd.get, zk, bin, zc, IntKind.signed, zi, zj, zb, unary, ze, zd, za, zo, zr, zh, zf, zg, zp, Cp.isFull, isNil, zq, simprocAttr, SQX, V.cells, f5_fill, es, el _ (op - 66) (by omega), show ¬ (77 : Int) ≤ op by omega, e1, Nat.mul_one, show op - 66 < 11 by omega, show ((op - 66 : Nat) : Int) < 11 by omega, e2, getParts, fill3, st_prev, ld_prev, take_two, Nat.le_refl]
    rfl
end
section
theorem isaBranch_r {base : Nat} (o : Int) (h : Heap) : WpF S0 base k_isa_Branch [.sc (.int .i64 o)] h fun v h' => v = .bool (inI o 5 10) ∧ h' = h := by
  have hi := fun base a b h => isaIn_r (base := base) o a b h
  first | refine zu (A := f_isa_Branch) rfl rfl rfl rfl ?_ | refine zB (A := f_isa_Branch) rfl rfl rfl rfl ?_
  simp only [f_isa_Branch, oD, cD]
  simp only [SQ, SQB, zm, AOp.opds, step, Opd.get, zk, bin, zc, IntKind.signed, zi, zj, zl, zb, unary, ze, zd, za, zo, zr, zh, zf, zg, zp, Cp.isFull, isNil, zq, simprocAttr, -List.reduceReplicate, SQX, V.cells, zn (hi _ _ _ _)]
def codeP (op : Nat) : Int × Int × Int :=
  if (op : Int) ≤ 4 then ([55, 23, 111, 103].getD (op - 1) 0, 0, 0) else if (op : Int) ≤ 10 then (99, [0, 1, 4, 5, 6, 7].getD (op - 5) 0, 0) else if (op : Int) ≤ 17 then (3, IntKind.u32.wrap ((op : Int) - 11), 0) else if (op : Int) ≤ 21 then (35, IntKind.u32.wrap ((op : Int) - 18), 0) else if (op : Int) ≤ 30 then (19, (arithP op).1, (arithP op).2) else if (op : Int) ≤ 34 then (27, (arithP op).1, (arithP op).2) else if (op : Int) ≤ 44 then (51, (arithP op).1, (arithP op).2) else if (op : Int) ≤ 49 then (59, (arithP op).1, (arithP op).2) else if (op : Int) ≤ 57 then (51, timesP op, 1) else if (op : Int) ≤ 62 then (59, timesP op, 1) else if (op : Int) = 63 then (15, 0, 0) else if (op : Int) ≤ 65 then (115, 0, 0) else if (77 : Int) ≤ op then (47, 3, (f5L.getD (op - 77) 0 * 4 : Nat)) else (47, 2, (f5L.getD (op - 66) 0 * 4 : Nat))
theorem codeP_tab : ∀ op : Nat, op < 88 → 1 ≤ op → codeP op = (((F (wordT op) 0 7 : Nat) : Int), ((F (wordT op) 12 3 : Nat) : Int), ((F (wordT op) 25 7 : Nat) : Int)) := by decide +kernel
theorem of_f0 : fillParts [(.sc (.int .u32 (0))), (.sc (.int .u32 (0))), (.sc (.int .u32 (0))), (.sc (.int .u32 (0)))] [(0, 1, ((.sc (.int .u32 (55))))), (1, 1, ((.sc (.int .u32 (23))))), (2, 1, ((.sc (.int .u32 (111))))), (3, 1, ((.sc (.int .u32 (103)))))] = some [.sc (.int .u32 55), .sc (.int .u32 23), .sc (.int .u32 111), .sc (.int .u32 103)] := rfl
theorem of_f2 : fillParts [(.sc (.int .u32 (0))), (.sc (.int .u32 (0))), (.sc (.int .u32 (0))), (.sc (.int .u32 (0))), (.sc (.int .u32 (0))), (.sc (.int .u32 (0)))] [(0, 1, ((.sc (.int .u32 (0))))), (1, 1, ((.sc (.int .u32 (1))))), (2, 1, ((.sc (.int .u32 (4))))), (3, 1, ((.sc (.int .u32 (5))))), (4, 1, ((.sc (.int .u32 (6))))), (5, 1, ((.sc (.int .u32 (7)))))] = some [.sc (.int .u32 0), .sc (.int .u32 1), .sc (.int .u32 4), .sc (.int .u32 5), .sc (.int .u32 6), .sc (.int .u32 7)] := rfl
set_option maxHeartbeats 2000000 in
theorem eof_r {base : Nat} (op : Nat) (h : Heap) (h1 : 1 ≤ op) (h2 : op < 88) : WpF S0 base k_enc_of [V.int op] h fun v h' => v = codeV (F (wordT op) 0 7) (F (wordT op) 12 3) (F (wordT op) 25 7) ∧ h' = h := by
  have ht := codeP_tab op h2 h1
  have hB := fun base h => isaBranch_r (base := base) op h
  have ha := fun base h => earith_r (base := base) op h
  have hw : ∀ (d : Nat) base b c h, WpF S0 base k_enc_code_with [codeV 0 b c, U32 d] h fun v h' => v = codeV d b c ∧ h' = h := fun d base b c h => ewith_r (base := base) 0 b c d h
  have w19 : ∀ base b c h, WpF S0 base k_enc_code_with [codeV 0 b c, .sc (.int .u32 19)] h fun v h' => v = codeV 19 b c ∧ h' = h := fun base b c h => hw 19 base b c h
  have w27 : ∀ base b c h, WpF S0 base k_enc_code_with [codeV 0 b c, .sc (.int .u32 27)] h fun v h' => v = codeV 27 b c ∧ h' = h := fun base b c h => hw 27 base b c h
  have w51 : ∀ base b c h, WpF S0 base k_enc_code_with [codeV 0 b c, .sc (.int .u32 51)] h fun v h' => v = codeV 51 b c ∧ h' = h := fun base b c h => hw 51 base b c h
  have w59 : ∀ base b c h, WpF S0 base k_enc_code_with [codeV 0 b c, .sc (.int .u32 59)] h fun v h' => v = codeV 59 b c ∧ h' = h := fun base b c h => hw 59 base b c h
  clear hw
  have hv : codeV (F (wordT op) 0 7) (F (wordT op) 12 3) (F (wordT op) 25 7) = .agg [.sc (.int .u32 (codeP op).1), .sc (.int .u32 (codeP op).2.1), .sc (.int .u32 (codeP op).2.2)] := by rw [ht]
  rw [hv]
  clear hv ht
  first | refine zu (A := f_enc_of) rfl rfl rfl rfl ?_ | refine zB (A := f_enc_of) rfl rfl rfl rfl ?_
  simp only [f_enc_of, oD, cD]
  have k1 : IntKind.i64.wrap ((op : Int) - 1) = ((op - 1 : Nat) : Int) := by rw [wrap_i64 (by omega) (by omega)]; omega
  by_cases c1 : op ≤ 4
  · have k2 : ([.sc (.int .u32 55), .sc (.int .u32 23), .sc (.int .u32 111), .sc (.int .u32 103)] : List V)[op - 1]? = some (.sc (.int .u32 (codeP op).1)) ∧ (codeP op).2 = (0, 0) := by
      rcases (show op = 1 ∨ op = 2 ∨ op = 3 ∨ op = 4 by omega) with rfl | rfl | rfl | rfl <;> exact ⟨rfl, rfl⟩
    simp only [SQ, SQB, zm, AOp.opds, step, Opd.get, zk, bin, zc, IntKind.signed, zi, zj, zl, zb, unary, ze, zd, za, zo, zr, zh, zf, zg, zp, Cp.isFull, isNil, zq, simprocAttr, -List.reduceReplicate, SQX, V.cells, of_f0, show (op : Int) ≤ 4 by omega, k1, show op - 1 < 4 by omega, Nat.mul_one, k2.1, k2.2, getParts, fill3, st_new, boxTake, Nat.le_refl, at_new, List.take_succ_cons, List.take_zero]
  by_cases c2 : op ≤ 10
  · have k3 : IntKind.i64.wrap ((op : Int) - 5) = ((op - 5 : Nat) : Int) := by rw [wrap_i64 (by omega) (by omega)]; omega
    have k4 : inI (op : Int) 5 10 = true := by simp [inI]; omega
    rw [k4] at hB
    have k2 : ([.sc (.int .u32 0), .sc (.int .u32 1), .sc (.int .u32 4), .sc (.int .u32 5), .sc (.int .u32 6), .sc (.int .u32 7)] : List V)[op - 5]? = some (.sc (.int .u32 (codeP op).2.1)) ∧ (codeP op).1 = 99 ∧ (codeP op).2.2 = 0 := by
      rcases (show op = 5 ∨ op = 6 ∨ op = 7 ∨ op = 8 ∨ op = 9 ∨ op = 10 by omega) with rfl | rfl | rfl | rfl | rfl | rfl <;> exact ⟨rfl, rfl, rfl⟩
    simp only [SQ, SQB, zm, AOp.opds, step, Opd.get, zk, bin, zc, IntKind.signed, zi, zj, zl, zb, unary, ze, zd, za, zo, zr, zh, zf, zg, zp, Cp.isFull, isNil, zq, simprocAttr, -List.reduceReplicate, SQX, V.cells, of_f2, show ¬ (op : Int) ≤ 4 by omega, zn (hB _ _), k3, show op - 5 < 6 by omega, Nat.mul_one, k2.1, k2.2.1, k2.2.2, getParts, fill3, st_new, boxTake, Nat.le_refl, at_new, List.take_succ_cons, List.take_zero]
  have k4 : inI (op : Int) 5 10 = false := by simp [inI]; omega
  rw [k4] at hB
  have n1 : ¬ (op : Int) ≤ 4 := by omega
  have n10 : ¬ (op : Int) ≤ 10 := by omega
  have e11 : IntKind.i64.wrap ((op : Int) - 11) = (op : Int) - 11 := wrap_i64 (by omega) (by omega)
  have e18 : IntKind.i64.wrap ((op : Int) - 18) = (op : Int) - 18 := wrap_i64 (by omega) (by omega)
  have ht := fun base h (q : 50 ≤ op ∧ op < 63) => etimes_r (base := base) op h (by omega) (by omega)
  have hat := fun base h (q : 66 ≤ op) => eatomic_r (base := base) op h q h2
  by_cases c3 : op ≤ 49
  · clear ht hat
    unfold codeP
    rw [if_neg n1, if_neg n10]
    (simp only [SQ, zm, AOp.opds, step, Opd.get, zk, bin, zc, IntKind.signed, zi, zj, zl, zb, unary, ze, zd, za, zo, zr, zh, zf, zg, zp, Cp.isFull, isNil, zq, simprocAttr, -List.reduceReplicate, SQX, V.cells, n1, zn (hB _ _), e11, e18, zn (ha _ _), zn (w19 _ _ _ _), zn (w27 _ _ _ _), zn (w51 _ _ _ _), zn (w59 _ _ _ _), getParts, fill3, st_new, boxTake, Nat.le_refl, at_new, List.take_succ_cons, List.take_zero]; repeat' ((first | refine condQ_i ?_ ?_ | refine guardQ_t ?_ ?_ | refine guardQ_f ?_ ?_) <;> (intro hb; simp only [SQ, zm, AOp.opds, step, Opd.get, zk, bin, zc, IntKind.signed, zi, zj, zl, zb, unary, ze, zd, za, zo, zr, zh, zf, zg, zp, Cp.isFull, isNil, zq, simprocAttr, -List.reduceReplicate, SQX, V.cells, hb, n1, zn (hB _ _), e11, e18, zn (ha _ _), zn (w19 _ _ _ _), zn (w27 _ _ _ _), zn (w51 _ _ _ _), zn (w59 _ _ _ _), getParts, fill3, st_new, boxTake, Nat.le_refl, at_new, List.take_succ_cons, List.take_zero])))
    all_goals clear ha w19 w27 w51 w59 hB
    all_goals clear k1 k4 e11 e18 c1 c2
    all_goals (simp only [decide_eq_true_eq, decide_eq_false_iff_not] at *)
    all_goals (first | rfl | (simp only [*, if_true, if_false]; done) | (exfalso; omega))
  have n17 : ¬ (op : Int) ≤ 17 := by omega
  have n21 : ¬ (op : Int) ≤ 21 := by omega
  have n30 : ¬ (op : Int) ≤ 30 := by omega
  have n34 : ¬ (op : Int) ≤ 34 := by omega
  have n44 : ¬ (op : Int) ≤ 44 := by omega
  have n49 : ¬ (op : Int) ≤ 49 := by omega
  by_cases c4 : op ≤ 62
  · have ht := fun base h => ht base h ⟨by omega, by omega⟩
    clear hat
    unfold codeP
    rw [if_neg n1, if_neg n10]
    (simp only [SQ, zm, AOp.opds, step, Opd.get, zk, bin, zc, IntKind.signed, zi, zj, zl, zb, unary, ze, zd, za, zo, zr, zh, zf, zg, zp, Cp.isFull, isNil, zq, simprocAttr, -List.reduceReplicate, SQX, V.cells, zn (ht _ _), n17, n21, n30, n34, n44, n49, n1, zn (hB _ _), e11, e18, zn (ha _ _), zn (w19 _ _ _ _), zn (w27 _ _ _ _), zn (w51 _ _ _ _), zn (w59 _ _ _ _), getParts, fill3, st_new, boxTake, Nat.le_refl, at_new, List.take_succ_cons, List.take_zero]; repeat' ((first | refine condQ_i ?_ ?_ | refine guardQ_t ?_ ?_ | refine guardQ_f ?_ ?_) <;> (intro hb; simp only [SQ, zm, AOp.opds, step, Opd.get, zk, bin, zc, IntKind.signed, zi, zj, zl, zb, unary, ze, zd, za, zo, zr, zh, zf, zg, zp, Cp.isFull, isNil, zq, simprocAttr, -List.reduceReplicate, SQX, V.cells, hb, zn (ht _ _), n17, n21, n30, n34, n44, n49, n1, zn (hB _ _), e11, e18, zn (ha _ _), zn (w19 _ _ _ _), zn (w27 _ _ _ _), zn (w51 _ _ _ _), zn (w59 _ _ _ _), getParts, fill3, st_new, boxTake, Nat.le_refl, at_new, List.take_succ_cons, List.take_zero])))
    all_goals clear ha w19 w27 w51 w59 hB ht
    all_goals clear k1 k4 e11 e18 c1 c2
    all_goals (simp only [decide_eq_true_eq, decide_eq_false_iff_not] at *)
    all_goals (first | rfl | (simp only [*, if_true, if_false]; done) | (exfalso; omega))
  have n57 : ¬ (op : Int) ≤ 57 := by omega
  have n62 : ¬ (op : Int) ≤ 62 := by omega
  by_cases c5 : op ≤ 65
  · clear ht hat
    unfold codeP
    rw [if_neg n1, if_neg n10]
    (simp only [SQ, zm, AOp.opds, step, Opd.get, zk, bin, zc, IntKind.signed, zi, zj, zl, zb, unary, ze, zd, za, zo, zr, zh, zf, zg, zp, Cp.isFull, isNil, zq, simprocAttr, -List.reduceReplicate, SQX, V.cells, n17, n21, n30, n34, n44, n49, n57, n62, n1, zn (hB _ _), e11, e18, zn (ha _ _), zn (w19 _ _ _ _), zn (w27 _ _ _ _), zn (w51 _ _ _ _), zn (w59 _ _ _ _), getParts, fill3, st_new, boxTake, Nat.le_refl, at_new, List.take_succ_cons, List.take_zero]; repeat' ((first | refine condQ_i ?_ ?_ | refine guardQ_t ?_ ?_ | refine guardQ_f ?_ ?_) <;> (intro hb; simp only [SQ, zm, AOp.opds, step, Opd.get, zk, bin, zc, IntKind.signed, zi, zj, zl, zb, unary, ze, zd, za, zo, zr, zh, zf, zg, zp, Cp.isFull, isNil, zq, simprocAttr, -List.reduceReplicate, SQX, V.cells, hb, n17, n21, n30, n34, n44, n49, n57, n62, n1, zn (hB _ _), e11, e18, zn (ha _ _), zn (w19 _ _ _ _), zn (w27 _ _ _ _), zn (w51 _ _ _ _), zn (w59 _ _ _ _), getParts, fill3, st_new, boxTake, Nat.le_refl, at_new, List.take_succ_cons, List.take_zero])))
    all_goals clear ha w19 w27 w51 w59 hB
    all_goals clear k1 k4 e11 e18 c1 c2
    all_goals (simp only [decide_eq_true_eq, decide_eq_false_iff_not] at *)
    all_goals (first | rfl | (simp only [*, if_true, if_false]; done) | (exfalso; omega))
  have hat := fun base h => hat base h (by omega)
  unfold codeP
  rw [if_neg n1, if_neg n10, if_neg (by omega), if_neg (by omega), if_neg (by omega), if_neg (by omega), if_neg (by omega), if_neg (by omega), if_neg (by omega), if_neg (by omega), if_neg (by omega), if_neg (by omega)]
  by_cases c6 : 77 ≤ op
  · rw [if_pos c6] at hat
    rw [if_pos (by omega)]
    simp only [SQ, SQB, zm, AOp.opds, step, Opd.get, zk, bin, zc, IntKind.signed, zi, zj, zl, zb, unary, ze, zd, za, zo, zr, zh, zf, zg, zp, Cp.isFull, isNil, zq, simprocAttr, -List.reduceReplicate, SQX, V.cells, zn (hat _ _), n17, n21, n30, n34, n44, n49, n57, n62, show ¬ (op : Int) = 63 by omega, show ¬ (op : Int) ≤ 65 by omega, c6, n1, zn (hB _ _), e11, e18, zn (ha _ _), zn (w19 _ _ _ _), zn (w27 _ _ _ _), zn (w51 _ _ _ _), zn (w59 _ _ _ _), getParts, fill3, st_new, boxTake, Nat.le_refl, at_new, List.take_succ_cons, List.take_zero]
  · rw [if_neg c6] at hat
    rw [if_neg (by omega)]
    simp only [SQ, SQB, zm, AOp.opds, step, Opd.get, zk, bin, zc, IntKind.signed, zi, zj, zl, zb, unary, ze, zd, za, zo, zr, zh, zf, zg, zp, Cp.isFull, isNil, zq, simprocAttr, -List.reduceReplicate, SQX, V.cells, zn (hat _ _), n17, n21, n30, n34, n44, n49, n57, n62, show ¬ (op : Int) = 63 by omega, show ¬ (op : Int) ≤ 65 by omega, c6, n1, zn (hB _ _), e11, e18, zn (ha _ _), zn (w19 _ _ _ _), zn (w27 _ _ _ _), zn (w51 _ _ _ _), zn (w59 _ _ _ _), getParts, fill3, st_new, boxTake, Nat.le_refl, at_new, List.take_succ_cons, List.take_zero]
end
section
def putN (w a n v : Nat) : Nat := w - F w a n * 2 ^ a + v % 2 ^ n * 2 ^ a
theorem mask_lt {a n : Nat} (h : a + n ≤ 32) : (2 ^ n - 1) * 2 ^ a < 2 ^ 32 := by
  have h1 : 2 ^ n * 2 ^ a ≤ 2 ^ 32 := by rw [← Nat.pow_add]; exact Nat.pow_le_pow_right (by decide) (by omega)
  have h2 := Nat.two_pow_pos n
  have h3 := Nat.two_pow_pos a
  have h4 : (2 ^ n - 1) * 2 ^ a = 2 ^ n * 2 ^ a - 2 ^ a := by rw [Nat.sub_mul, Nat.one_mul]
  omega
theorem andNot_u32 {a b : Nat} (ha : a < 4294967296) (hb : b < 4294967296) : IntKind.u32.wrap (BitVec.ofInt IntKind.u32.bits (a : Int) &&& ~~~ BitVec.ofInt IntKind.u32.bits (b : Int)).toNat = ((a &&& (4294967295 - b) : Nat) : Int) := by
  have e : (~~~ BitVec.ofInt IntKind.u32.bits (b : Int)).toNat = 4294967295 - b := by
    rw [BitVec.toNat_not, ofInt32, Nat.mod_eq_of_lt hb]
    show 2 ^ 32 - 1 - b = _
    omega
  rw [BitVec.toNat_and, ofInt32, Nat.mod_eq_of_lt ha, e, wrapN_u32, Nat.mod_eq_of_lt (Nat.lt_of_le_of_lt Nat.and_le_left ha)]
theorem and_mod32 {x m : Nat} (hm : m < 2 ^ 32) : (x % 4294967296) &&& m = x &&& m := by
  apply Nat.eq_of_testBit_eq
  intro i
  rw [show (4294967296 : Nat) = 2 ^ 32 from rfl, Nat.testBit_and, Nat.testBit_and, Nat.testBit_mod_two_pow]
  by_cases h : i < 32
  · simp [h]
  · have : m.testBit i = false := Nat.testBit_lt_two_pow (Nat.lt_of_lt_of_le hm (Nat.pow_le_pow_right (by decide) (by omega)))
    simp [this]
theorem putN_lt {w a n v : Nat} (hw : w < 2 ^ 32) (h : a + n ≤ 32) : putN w a n v < 2 ^ 32 := by
  unfold putN
  rw [← put_N w a n v h hw]
  exact Nat.or_lt_two_pow (Nat.lt_of_le_of_lt Nat.and_le_left hw) (Nat.lt_of_le_of_lt Nat.and_le_right (mask_lt h))
theorem wPut_r {base : Nat} (w a n v : Nat) (h : Heap) (hw : w < 2 ^ 32) (hv : v < 2 ^ 32) (hn : 1 ≤ n) (ha : a + n ≤ 32) : WpF S0 base k_word_Put [U32 w, V.int a, V.int n, U32 v] h fun r h' => r = .tup [U32 (putN w a n v), V.int 0] ∧ h' = h := by
  have hm := mask_lt ha
  have e0 : min a IntKind.u32.bits = a := Nat.min_eq_left (by simp only [IntKind.bits]; omega)
  have ep : (2 : Int) ^ a = ((2 ^ a : Nat) : Int) := by simp
  have e1 : IntKind.u32.wrap (((2 ^ n - 1 : Nat) : Int) * 2 ^ min a IntKind.u32.bits) = (((2 ^ n - 1) * 2 ^ a : Nat) : Int) := by
    rw [e0, ep, ← Int.natCast_mul]
    exact wrapn_u32 hm
  have e2 : IntKind.u32.wrap ((v : Int) * 2 ^ min a IntKind.u32.bits) = ((v * 2 ^ a % 4294967296 : Nat) : Int) := by
    rw [e0, ep, ← Int.natCast_mul]
    exact wrapN_u32 _
  have e3 := andNot_u32 (a := w) (b := (2 ^ n - 1) * 2 ^ a) hw hm
  have e4 := and_u32 (a := v * 2 ^ a % 4294967296) (b := (2 ^ n - 1) * 2 ^ a) (by omega) hm
  have e5 := or_u32 (a := w &&& (4294967295 - (2 ^ n - 1) * 2 ^ a)) (b := (v * 2 ^ a % 4294967296) &&& ((2 ^ n - 1) * 2 ^ a)) (Nat.lt_of_le_of_lt Nat.and_le_left hw) (Nat.lt_of_le_of_lt Nat.and_le_right hm)
  have e6 : (w &&& (4294967295 - (2 ^ n - 1) * 2 ^ a)) ||| ((v * 2 ^ a % 4294967296) &&& ((2 ^ n - 1) * 2 ^ a)) = putN w a n v := by
    rw [and_mod32 hm]
    exact put_N w a n v ha hw
  rw [e6] at e5
  first | refine zu (A := f_word_Put) rfl rfl rfl rfl ?_ | refine zB (A := f_word_Put) rfl rfl rfl rfl ?_
  simp only [f_word_Put, oD, cD]
  simp only [SQ, SQB, zm, AOp.opds, step, Opd.get, zk, bin, zc, IntKind.signed, zi, zj, zl, zb, unary, ze, zd, za, zo, zr, zh, zf, zg, zp, Cp.isFull, isNil, zq, simprocAttr, zn (wmay_r a n _ hn ha), zn (wmask_r n _ (by omega)), e1, e2, e3, e4, e5, show ¬ (a : Int) < 0 by omega]
abbrev pc (p : Nat × Nat × Nat) : List V := [U32 p.1, V.int p.2.1, V.int p.2.2]
def packN (l : List (Nat × Nat × Nat)) : Nat := l.foldl (fun w p => putN w p.2.1 p.2.2 p.1) 0
def PcOk (p : Nat × Nat × Nat) : Prop := p.1 < 2 ^ 32 ∧ 1 ≤ p.2.2 ∧ p.2.1 + p.2.2 ≤ 32
theorem packN_lt {l : List (Nat × Nat × Nat)} (h : ∀ p ∈ l, PcOk p) : packN l < 2 ^ 32 := by
  unfold packN
  have : ∀ (l : List (Nat × Nat × Nat)) (w : Nat), (∀ p ∈ l, PcOk p) → w < 2 ^ 32 → l.foldl (fun w p => putN w p.2.1 p.2.2 p.1) w < 2 ^ 32 := by
    intro l
    induction l with
    | nil => intro w _ hw; exact hw
    | cons p r ih => intro w hp hw; exact ih _ (fun q hq => hp q (List.mem_cons_of_mem _ hq)) (putN_lt hw (hp p (List.mem_cons_self)).2.2)
  exact this l 0 h (by decide)
theorem pack_r {base : Nat} (l : List (Nat × Nat × Nat)) (ex : Cp) (h : Heap) (hl : l.length < 1000) (ho : ∀ p ∈ l, PcOk p) : WpF S0 base k_enc_pack [.slc ex 3 (l.map pc)] h fun v h' => v = U32 (packN l) ∧ h' = h := by
  first | refine zu (A := f_enc_pack) rfl rfl rfl rfl ?_ | refine zB (A := f_enc_pack) rfl rfl rfl rfl ?_
  simp only [f_enc_pack, oD, cD]
  simp only [SQ, SQB, zm, AOp.opds, step, Opd.get, zk, bin, zc, IntKind.signed, zi, zj, zl, zb, unary, ze, zd, za, zo, zr, zh, zf, zg, zp, Cp.isFull, isNil, zq, simprocAttr, ]
  refine WpC_loopI (fun k en h' => ∃ i : Nat, k = l.length - i ∧ i ≤ l.length ∧ en 8 = V.int i ∧ en 7 = V.int l.length ∧ en 6 = .slc ex 3 (l.map pc) ∧ en 3 = U32 (packN (l.take i)) ∧ h' = h) l.length ⟨0, rfl, Nat.zero_le _, rfl, rfl, rfl, rfl, rfl⟩ ?_
  rintro k en h' ⟨i, rfl, hi, e8, e7, e6, e3, rfl⟩
  by_cases h1 : i < l.length
  · have hg' : (l.map pc)[i]? = some (pc l[i]) := by simp [List.getElem?_map, h1]
    have htk : packN (l.take (i + 1)) = putN (packN (l.take i)) l[i].2.1 l[i].2.2 l[i].1 := by
      unfold packN
      rw [List.take_add_one, List.getElem?_eq_getElem h1, List.foldl_append]; rfl
    obtain ⟨o1, o2, o3⟩ := ho _ (List.getElem_mem h1)
    have hw : packN (l.take i) < 2 ^ 32 := packN_lt fun p hp => ho p (List.mem_of_mem_take hp)
    have hP := fun base h => wPut_r (base := base) (packN (l.take i)) l[i].2.1 l[i].2.2 l[i].1 h hw o1 o2 o3
    simp only [SQ, SQB, zm, AOp.opds, step, Opd.get, zk, bin, zc, IntKind.signed, zi, zj, zl, zb, unary, ze, zd, za, zo, zr, zh, zf, zg, zp, Cp.isFull, isNil, zq, simprocAttr, SQX, V.cells, e8, e7, e6, e3, h1, hg', zn (hP _ _), boxTake, List.take_succ_cons, List.take_zero]
    exact ⟨l.length - (i + 1), by omega, i + 1, rfl, by omega, by rw [wrap_i64 (by omega) (by omega)]; rfl, by rw [htk]⟩
  · have : l.take i = l := List.take_of_length_le (by omega)
    rw [this] at e3
    simp only [SQ, SQB, zm, AOp.opds, step, Opd.get, zk, bin, zc, IntKind.signed, zi, zj, zl, zb, unary, ze, zd, za, zo, zr, zh, zf, zg, zp, Cp.isFull, isNil, zq, simprocAttr, SQX, V.cells, e8, e7, e6, e3, h1]
end
section
theorem isaReads_r {base : Nat} (op rd a b imm : Int) (aq rl : Bool) (h : Heap) (h0 : -9223372036854775808 ≤ imm) (h1 : imm ≤ 9223372036854775807) : WpF S0 base k_isa_Reads [ins op rd a b imm aq rl] h fun v h' => v = .tup [.bool (mayI op rd a b imm aq rl && fA (formI op)), .bool (mayI op rd a b imm aq rl && fB (formI op))] ∧ h' = h := by
  have hM := fun base h => isaMay_r (base := base) op rd a b imm aq rl h h0 h1
  have hF := fun base h => isaForm_r (base := base) op h
  have hf := fun base f h => isaFields_r (base := base) f h
  generalize mayI op rd a b imm aq rl = m at *
  first | refine zu (A := f_isa_Reads) rfl rfl rfl rfl ?_ | refine zB (A := f_isa_Reads) rfl rfl rfl rfl ?_
  simp only [f_isa_Reads, oD, cD]
  (simp only [SQ, zm, AOp.opds, step, Opd.get, zk, bin, zc, IntKind.signed, zi, zj, zl, zb, unary, ze, zd, za, zo, zr, zh, zf, zg, zp, Cp.isFull, isNil, zq, simprocAttr, SQX, V.cells, zn (hM _ _), zn (hF _ _), zn (hf _ _ _), List.take_succ_cons, List.take_zero]; repeat' ((first | refine condQ_i ?_ ?_ | refine guardQ_t ?_ ?_ | refine guardQ_f ?_ ?_) <;> (intro hb; simp only [SQ, zm, AOp.opds, step, Opd.get, zk, bin, zc, IntKind.signed, zi, zj, zl, zb, unary, ze, zd, za, zo, zr, zh, zf, zg, zp, Cp.isFull, isNil, zq, simprocAttr, SQX, V.cells, hb, zn (hM _ _), zn (hF _ _), zn (hf _ _ _), List.take_succ_cons, List.take_zero])))
  all_goals simp_all
theorem isaWrites_r {base : Nat} (op rd a b imm : Int) (aq rl : Bool) (h : Heap) (h0 : -9223372036854775808 ≤ imm) (h1 : imm ≤ 9223372036854775807) : WpF S0 base k_isa_Writes [ins op rd a b imm aq rl] h fun v h' => v = .tup [.sc (.int .i64 (if mayI op rd a b imm aq rl then rd else 0)), .bool (mayI op rd a b imm aq rl && decide (rd ≠ 0))] ∧ h' = h := by
  have hM := fun base h => isaMay_r (base := base) op rd a b imm aq rl h h0 h1
  generalize mayI op rd a b imm aq rl = m at *
  first | refine zu (A := f_isa_Writes) rfl rfl rfl rfl ?_ | refine zB (A := f_isa_Writes) rfl rfl rfl rfl ?_
  simp only [f_isa_Writes, oD, cD]
  (simp only [SQ, zm, AOp.opds, step, Opd.get, zk, bin, zc, IntKind.signed, zi, zj, zl, zb, unary, ze, zd, za, zo, zr, zh, zf, zg, zp, Cp.isFull, isNil, zq, simprocAttr, SQX, V.cells, zn (hM _ _), List.take_succ_cons, List.take_zero]; repeat' ((first | refine condQ_i ?_ ?_ | refine guardQ_t ?_ ?_ | refine guardQ_f ?_ ?_) <;> (intro hb; simp only [SQ, zm, AOp.opds, step, Opd.get, zk, bin, zc, IntKind.signed, zi, zj, zl, zb, unary, ze, zd, za, zo, zr, zh, zf, zg, zp, Cp.isFull, isNil, zq, simprocAttr, SQX, V.cells, hb, zn (hM _ _), List.take_succ_cons, List.take_zero])))
  all_goals simp_all
end
section
def RegV (h0 : Heap) (l : List (Nat × Nat × Nat)) : V := match l with
  | [] => .sc (.slice none 0 0)
  | _ :: r => .hsl h0.length r.length 0 (r.length + 1)
def RegH (h0 : Heap) (l : List (Nat × Nat × Nat)) : Heap := match l with
  | [] => h0
  | p :: r => h0 ++ [.row 129 3 r.length ((p :: r).map pc)]
theorem newOk_pc (l : List (Nat × Nat × Nat)) : newOk 3 (l.map pc) = true := by
  unfold newOk
  rw [List.all_eq_true]
  intro r hr
  obtain ⟨p, _, rfl⟩ := List.mem_map.1 hr
  rfl
theorem reg_append {base : Nat} {h0 : Heap} {l : List (Nat × Nat × Nat)} {q : Nat × Nat × Nat} {s : List (Nat × Nat × Nat)} (hb : base ≤ h0.length) (hl : l.length + s.length < 1000) : appendV base (RegH h0 l) 129 3 (RegV h0 l) ((q :: s).map pc) = some (match l with
  | [] => .hsl h0.length 0 0 (s.length + 1)
  | p :: r => .hsl h0.length (r.length + 1) 0 (r.length + 1 + (s.length + 1)), match l with
  | [] => h0 ++ [.row 129 3 0 ((q :: s).map pc)]
  | p :: r => h0 ++ [.row 129 3 (r.length + 1) ((p :: r).map pc ++ (q :: s).map pc)]) := by
  have hlim : 1000 ≤ lim := by decide
  cases l with
  | nil =>
    simp only [RegH, RegV, appendV, List.map_cons]
    rw [if_pos ⟨by simp only [List.length_cons, List.length_map]; simp only [List.length_nil] at hl; omega, newOk_pc (q :: s)⟩]
    simp
  | cons p r =>
    simp only [RegH, RegV, appendV, List.map_cons, at_new]
    rw [if_pos]
    · simp [set_new, List.take_of_length_le]
    · refine ⟨trivial, trivial, trivial, by simp, by simp only [List.length_cons, List.length_map] at *; omega, newOk_pc (q :: s), ?_⟩
      rw [List.all_eq_true]
      intro x _
      exact may_new hb
theorem newOk3 (x y z : Value) : newOk 3 [[.sc x, .sc y, .sc z]] = true := rfl
theorem ap_nil {base : Nat} {h : Heap} {t : TypeId} {x y z : Value} : appendV base h t 3 (.sc (.slice none 0 0)) [[.sc x, .sc y, .sc z]] = some (.hsl h.length 0 0 1, h ++ [.row t 3 0 [[.sc x, .sc y, .sc z]]]) := by
  have hlim : 1000 ≤ lim := by decide
  simp only [appendV]
  rw [if_pos ⟨by simp only [List.length_cons, List.length_nil]; omega, newOk3 x y z⟩]
  rfl
theorem ap_one {base : Nat} {h : Heap} {t : TypeId} {x y z : Value} {e k : Nat} {R : List (List V)} (hb : base ≤ h.length) (hR : R.length = k) (hk : k < 1000) : appendV base (h ++ [.row t 3 e R]) t 3 (.hsl h.length e 0 k) [[.sc x, .sc y, .sc z]] = some (.hsl h.length (e + 1) 0 (k + 1), h ++ [.row t 3 (e + 1) (R ++ [[.sc x, .sc y, .sc z]])]) := by
  have hlim : 1001 ≤ lim := by decide
  simp only [appendV, at_new]
  rw [if_pos]
  · simp [set_new, ← hR]
  · refine ⟨trivial, trivial, trivial, by omega, by simp only [List.length_cons, List.length_nil]; omega, newOk3 x y z, ?_⟩
    rw [List.all_eq_true]
    intro x _
    exact may_new hb
theorem fillP (x y z : Value) (a b c : V) : zv 3 (List.replicate 1 [a, b, c]) [(0, .agg [.sc x, .sc y, .sc z])] = some [[.sc x, .sc y, .sc z]] := rfl
theorem fillPc (x : Int) (y z : Int) : fillParts [.sc (.int .u32 0), .sc (.int .i64 0), .sc (.int .i64 0)] [(0, 1, .sc (.int .u32 x)), (1, 1, .sc (.int .i64 y)), (2, 1, .sc (.int .i64 z))] = some [.sc (.int .u32 x), .sc (.int .i64 y), .sc (.int .i64 z)] := rfl
def regP (f : Int) (rd a b : Nat) : List (Nat × Nat × Nat) := (if fA f then [(a, 15, 5)] else []) ++ (if fB f then [(b, 20, 5)] else []) ++ (if rd = 0 then [] else [(rd, 7, 5)])
theorem fBA (f : Int) : fB f = true → fA f = true := by
  unfold fB fA
  simp only [Bool.or_eq_true]
  rintro (((h | h) | h) | h) <;> simp [h]
set_option maxHeartbeats 1000000 in
theorem regs_r {base : Nat} (op imm : Int) (rd a b : Nat) (aq rl : Bool) (h : Heap) (hbase : base ≤ h.length) (h0 : -9223372036854775808 ≤ imm) (h1 : imm ≤ 9223372036854775807) (hrd : rd < 32) (ha : a < 32) (hb : b < 32) (hm : mayI op rd a b imm aq rl = true) : WpF S0 base k_enc_registers [ins op rd a b imm aq rl] h fun v h' => v = RegV h (regP (formI op) rd a b) ∧ h' = RegH h (regP (formI op) rd a b) := by
  have hR := fun base h => isaReads_r (base := base) op rd a b imm aq rl h h0 h1
  have hW := fun base h => isaWrites_r (base := base) op rd a b imm aq rl h h0 h1
  rw [hm] at hR hW
  simp only [Bool.true_and, if_true] at hR hW
  have ea : IntKind.u32.wrap (a : Int) = a := wrapn_u32 (by omega)
  have eb : IntKind.u32.wrap (b : Int) = b := wrapn_u32 (by omega)
  have er : IntKind.u32.wrap (rd : Int) = rd := wrapn_u32 (by omega)
  have hba := fBA (formI op)
  unfold regP
  generalize formI op = f at *
  cases cA : fA f <;> cases cB : fB f <;> by_cases cr : rd = 0 <;> (try (rw [cA, cB] at hba; simp at hba)) <;> rw [cA, cB] at hR
  all_goals (first | rw [if_pos cr] | rw [if_neg cr])
  all_goals (first | rw [show decide ((rd : Int) ≠ 0) = true from decide_eq_true (by omega)] at hW | rw [show decide ((rd : Int) ≠ 0) = false from decide_eq_false (by omega)] at hW)
  all_goals (first | refine zu (A := f_enc_registers) rfl rfl rfl rfl ?_ | refine zB (A := f_enc_registers) rfl rfl rfl rfl ?_)
  all_goals simp only [f_enc_registers, oD, cD]
  all_goals simp only [SQ, SQB, zm, AOp.opds, step, Opd.get, zk, bin, zc, IntKind.signed, zi, zj, zl, zb, unary, ze, zd, za, zo, zr, zh, zf, zg, zp, Cp.isFull, isNil, zq, simprocAttr, -List.reduceReplicate, SQX, V.cells, zn (hR _ _), zn (hW _ _), ea, eb, er, getParts, getParts2, fillPc, fillP, ap_nil, ap_one, srcRows, elems, hbase, List.take_succ_cons, List.take_zero, List.isEmpty_cons, Nat.reduceLT, not_true_eq_false, not_false_eq_true]
  all_goals exact ⟨rfl, rfl⟩
end
section
def bitN (b : Bool) : Nat := if b then 1 else 0
theorem ebit_r {base : Nat} (b : Bool) (h : Heap) : WpF S0 base k_enc_bit [.sc (.bool b)] h fun v h' => v = U32 (bitN b) ∧ h' = h := by
  unfold bitN
  first | refine zu (A := f_enc_bit) rfl rfl rfl rfl ?_ | refine zB (A := f_enc_bit) rfl rfl rfl rfl ?_
  simp only [f_enc_bit, oD, cD]
  cases b
  · simp only [SQ, SQB, zm, AOp.opds, step, Opd.get, zk, bin, zc, IntKind.signed, zi, zj, zl, zb, unary, ze, zd, za, zo, zr, zh, zf, zg, zp, Cp.isFull, isNil, zq, simprocAttr, -List.reduceReplicate, SQX, V.cells]
    rfl
  · simp only [SQ, SQB, zm, AOp.opds, step, Opd.get, zk, bin, zc, IntKind.signed, zi, zj, zl, zb, unary, ze, zd, za, zo, zr, zh, zf, zg, zp, Cp.isFull, isNil, zq, simprocAttr, -List.reduceReplicate, SQX, V.cells]
    rfl
def immP (op f : Int) (v : Nat) (aq rl : Bool) : List (Nat × Nat × Nat) :=
  if f = 1 then [(v, 12, 20)] else if f = 2 then [(v / 1048576, 31, 1), (v / 2, 21, 10), (v / 2048, 20, 1), (v / 4096, 12, 8)] else if f = 3 then [(v, 20, 12)] else if f = 4 then [(v / 4096, 31, 1), (v / 32, 25, 6), (v / 2, 8, 4), (v / 2048, 7, 1)] else if f = 5 then [(v / 32, 25, 7), (v, 7, 5)] else if f = 7 then [(v, 20, 6)] else if f = 8 then [(v, 20, 5)] else if f = 9 then [(v, 20, 8)] else if f = 10 ∨ f = 11 then [(bitN aq, 26, 1), (bitN rl, 25, 1)] else if op = 65 then [(1, 20, 1)] else []
def slP (l : List (Nat × Nat × Nat)) : V := match l with
  | [] => .sc (.slice none 0 0)
  | p :: r => .slc .lit 3 ((p :: r).map pc)
theorem fillP2 (x y z x2 y2 z2 : Value) (a b c : V) : zv 3 (List.replicate 2 [a, b, c]) [(0, .agg [.sc x, .sc y, .sc z]), (1, .agg [.sc x2, .sc y2, .sc z2])] = some [[.sc x, .sc y, .sc z], [.sc x2, .sc y2, .sc z2]] := rfl
theorem fillP3 (x y z x2 y2 z2 x3 y3 z3 : Value) (a b c : V) : zv 3 (List.replicate 3 [a, b, c]) [(0, .agg [.sc x, .sc y, .sc z]), (1, .agg [.sc x2, .sc y2, .sc z2]), (2, .agg [.sc x3, .sc y3, .sc z3])] = some [[.sc x, .sc y, .sc z], [.sc x2, .sc y2, .sc z2], [.sc x3, .sc y3, .sc z3]] := rfl
theorem fillP4 (x y z x2 y2 z2 x3 y3 z3 x4 y4 z4 : Value) (a b c : V) : zv 3 (List.replicate 4 [a, b, c]) [(0, .agg [.sc x, .sc y, .sc z]), (1, .agg [.sc x2, .sc y2, .sc z2]), (2, .agg [.sc x3, .sc y3, .sc z3]), (3, .agg [.sc x4, .sc y4, .sc z4])] = some [[.sc x, .sc y, .sc z], [.sc x2, .sc y2, .sc z2], [.sc x3, .sc y3, .sc z3], [.sc x4, .sc y4, .sc z4]] := rfl
set_option maxHeartbeats 2000000 in
theorem eimm_r {base : Nat} (op rd a b imm : Int) (aq rl : Bool) (h : Heap) : WpF S0 base k_enc_immediate [ins op rd a b imm aq rl] h fun v h' => v = slP (immP op (formI op) (uN imm % 4294967296) aq rl) ∧ h' = h := by
  have hF := fun base h => isaForm_r (base := base) op h
  have hB := fun base b h => ebit_r (base := base) b h
  have e0 := wrap_uN imm
  have e1 := wrapN_u32 (uN imm)
  revert e0 e1
  generalize uN imm % 4294967296 = v
  generalize uN imm = u
  intro e0 e1
  have s20 : (v : Int).fdiv (2 ^ min 20 IntKind.u32.bits) = ((v / 1048576 : Nat) : Int) := fdivN v 20
  have s1 : (v : Int).fdiv (2 ^ min 1 IntKind.u32.bits) = ((v / 2 : Nat) : Int) := fdivN v 1
  have s11 : (v : Int).fdiv (2 ^ min 11 IntKind.u32.bits) = ((v / 2048 : Nat) : Int) := fdivN v 11
  have s12 : (v : Int).fdiv (2 ^ min 12 IntKind.u32.bits) = ((v / 4096 : Nat) : Int) := fdivN v 12
  have s5 : (v : Int).fdiv (2 ^ min 5 IntKind.u32.bits) = ((v / 32 : Nat) : Int) := fdivN v 5
  unfold immP
  generalize formI op = f at *
  first | refine zu (A := f_enc_immediate) rfl rfl rfl rfl ?_ | refine zB (A := f_enc_immediate) rfl rfl rfl rfl ?_
  simp only [f_enc_immediate, oD, cD]
  (simp only [SQ, zm, AOp.opds, step, Opd.get, zk, bin, zc, IntKind.signed, zi, zj, zl, zb, unary, ze, zd, za, zo, zr, zh, zf, zg, zp, Cp.isFull, isNil, zq, simprocAttr, -List.reduceReplicate, SQX, V.cells, zn (hF _ _), zn (hB _ _ _), e0, e1, s20, s1, s11, s12, s5, getParts, getParts2, fillPc, fillP, fillP2, fillP4, List.take_succ_cons, List.take_zero]; repeat' ((first | refine condQ_i ?_ ?_ | refine guardQ_t ?_ ?_ | refine guardQ_f ?_ ?_) <;> (intro hb; simp only [SQ, zm, AOp.opds, step, Opd.get, zk, bin, zc, IntKind.signed, zi, zj, zl, zb, unary, ze, zd, za, zo, zr, zh, zf, zg, zp, Cp.isFull, isNil, zq, simprocAttr, -List.reduceReplicate, SQX, V.cells, hb, zn (hF _ _), zn (hB _ _ _), e0, e1, s20, s1, s11, s12, s5, getParts, getParts2, fillPc, fillP, fillP2, fillP4, List.take_succ_cons, List.take_zero])))
  all_goals clear hF hB e0 e1 s20 s1 s11 s12 s5
  all_goals simp only [decide_eq_true_eq, decide_eq_false_iff_not] at *
  all_goals simp (config := { decide := false }) only [*, if_true, if_false, or_true, true_or, or_self, reduceIte, Int.reduceEq]
  all_goals rfl
end
section
theorem ldE {h : Heap} {n : Option Nat} {cs : List V} {off : Nat} : zl h n (.eptr cs off) = zb n cs off := rfl
theorem pack_g {base : Nat} (l : List (Nat × Nat × Nat)) (s : V) (h : Heap) (hl : l.length < 1000) (ho : ∀ p ∈ l, PcOk p) (hs : zk s = some l.length) (hx : ∀ i (hi : i < l.length), ∃ p, zi h 3 i s = some p ∧ zl h (some 3) p = some (.agg (pc l[i]))) : WpF S0 base k_enc_pack [s] h fun v h' => v = U32 (packN l) ∧ h' = h := by
  first | refine zu (A := f_enc_pack) rfl rfl rfl rfl ?_ | refine zB (A := f_enc_pack) rfl rfl rfl rfl ?_
  simp only [f_enc_pack, oD, cD]
  simp only [SQ, SQB, zm, AOp.opds, step, Opd.get, bin, zc, IntKind.signed, zj, zb, unary, ze, zd, za, zo, zr, zh, zf, zg, zp, Cp.isFull, isNil, zq, simprocAttr, SQX, V.cells, hs]
  refine WpC_loopI (fun k en h' => ∃ i : Nat, k = l.length - i ∧ i ≤ l.length ∧ en 8 = V.int i ∧ en 7 = V.int l.length ∧ en 6 = s ∧ en 3 = U32 (packN (l.take i)) ∧ h' = h) l.length ⟨0, rfl, Nat.zero_le _, rfl, rfl, rfl, rfl, rfl⟩ ?_
  rintro k en h' ⟨i, rfl, hi, e8, e7, e6, e3, rfl⟩
  by_cases h1 : i < l.length
  · obtain ⟨p, hp1, hp2⟩ := hx i h1
    have htk : packN (l.take (i + 1)) = putN (packN (l.take i)) l[i].2.1 l[i].2.2 l[i].1 := by
      unfold packN
      rw [List.take_add_one, List.getElem?_eq_getElem h1, List.foldl_append]; rfl
    obtain ⟨o1, o2, o3⟩ := ho _ (List.getElem_mem h1)
    have hw : packN (l.take i) < 2 ^ 32 := packN_lt fun p hp => ho p (List.mem_of_mem_take hp)
    have hP := fun base h => wPut_r (base := base) (packN (l.take i)) l[i].2.1 l[i].2.2 l[i].1 h hw o1 o2 o3
    simp only [SQ, SQB, zm, AOp.opds, step, Opd.get, bin, zc, IntKind.signed, zj, zb, unary, ze, zd, za, zo, zr, zh, zf, zg, zp, Cp.isFull, isNil, zq, simprocAttr, SQX, V.cells, e8, e7, e6, e3, h1, hp1, hp2, ldE, zn (hP _ _), boxTake, List.take_succ_cons, List.take_zero]
    exact ⟨l.length - (i + 1), by omega, i + 1, rfl, by omega, by rw [wrap_i64 (by omega) (by omega)]; rfl, by rw [htk]⟩
  · have : l.take i = l := List.take_of_length_le (by omega)
    rw [this] at e3
    simp only [SQ, SQB, zm, AOp.opds, step, Opd.get, zk, bin, zc, IntKind.signed, zi, zj, zl, zb, unary, ze, zd, za, zo, zr, zh, zf, zg, zp, Cp.isFull, isNil, zq, simprocAttr, SQX, V.cells, e8, e7, e6, e3, h1]
theorem row_at {h : Heap} {t : TypeId} {sz e : Nat} {R : List (List V)} : rowAt (h ++ [.row t sz e R]) h.length e = some (sz, R) := by
  simp only [rowAt, at_new, if_true]
theorem pack_hsl {base : Nat} (l : List (Nat × Nat × Nat)) (h : Heap) (e n : Nat) (hn : n = l.length) (hl : l.length < 1000) (ho : ∀ p ∈ l, PcOk p) : WpF S0 base k_enc_pack [.hsl h.length e 0 n] (h ++ [.row 129 3 e (l.map pc)]) fun v h' => v = U32 (packN l) ∧ h' = h ++ [.row 129 3 e (l.map pc)] := by
  subst hn
  refine pack_g l _ _ hl ho rfl fun i hi => ?_
  refine ⟨.rptr h.length e (0 + i) 0, ?_, ?_⟩
  · simp only [zi, row_at]
    rw [if_pos ⟨trivial, hi, by rw [List.length_map]; omega⟩]
  · simp only [zl, row_at, Nat.zero_add, List.getElem?_map, List.getElem?_eq_getElem hi, Option.map_some, Option.bind_some, Option.getD_some]
    rw [if_pos (by simp)]
    rfl
end
section
theorem elems_reg {h : Heap} {l : List (Nat × Nat × Nat)} : (elems 3 (RegH h l) (RegV h l)).isSome = true := by
  cases l with
  | nil => rfl
  | cons p r =>
    simp only [RegH, RegV, elems, row_at]
    rw [if_pos ⟨trivial, by simp⟩]; rfl
theorem src_slP {h : Heap} {l : List (Nat × Nat × Nat)} : srcRows 3 h (slP l) = some (l.map pc) := by
  cases l with
  | nil => rfl
  | cons p r => rfl
theorem take_reg {h : Heap} {l : List (Nat × Nat × Nat)} : (RegH h l).take h.length = h := by
  cases l with
  | nil => simp [RegH]
  | cons p r => simp [RegH]
theorem app_pack {h : Heap} {P Q : List (Nat × Nat × Nat)} (hl : P.length + Q.length < 1000) (ho : ∀ p ∈ P ++ Q, PcOk p) : ∃ V2 H2, (srcRows 3 (RegH h P) (slP Q)).bind (fun new => appendV h.length (RegH h P) 129 3 (RegV h P) new) = some (V2, H2) ∧ H2.take h.length = h ∧ ∀ base, WpF S0 base k_enc_pack [V2] H2 fun v h' => v = U32 (packN (P ++ Q)) ∧ h' = H2 := by
  rw [src_slP]
  simp only [Option.bind_some]
  cases Q with
  | nil =>
    rw [List.append_nil] at ho ⊢
    refine ⟨RegV h P, RegH h P, ?_, take_reg, fun base => ?_⟩
    · simp only [List.map_nil, appendV]
      obtain ⟨x, hx⟩ := Option.isSome_iff_exists.1 (elems_reg (h := h) (l := P))
      rw [hx]; rfl
    · cases P with
      | nil => exact pack_g [] _ _ (by decide) ho rfl (fun i hi => absurd hi (by simp))
      | cons p r => exact pack_hsl (p :: r) h _ _ (by simp) (by simpa using hl) ho
  | cons q s =>
    simp only [List.length_cons] at hl
    rw [reg_append (Nat.le_refl _) (by omega)]
    cases P with
    | nil =>
      refine ⟨_, _, rfl, by simp, fun base => ?_⟩
      exact pack_hsl (q :: s) h _ _ (by simp) (by simp at hl ⊢; omega) ho
    | cons p r =>
      refine ⟨_, _, rfl, by simp, fun base => ?_⟩
      have := pack_hsl (base := base) (p :: r ++ q :: s) h (r.length + 1) (r.length + 1 + (s.length + 1)) (by simp; omega) (by simp at hl ⊢; omega) ho
      rw [List.map_append] at this
      exact this
def baseP (op : Nat) (f : Int) : Nat := if f = 1 ∨ f = 2 then F (wordT op) 0 7 else packN [(F (wordT op) 0 7, 0, 7), (F (wordT op) 12 3, 12, 3), (F (wordT op) 25 7, 25, 7)]
def encP (op : Nat) (rd a b v : Nat) (aq rl : Bool) : Nat := baseP op (formI op) ||| packN (regP (formI op) rd a b ++ immP op (formI op) v aq rl)
theorem PcOk_imm (op f : Int) (v : Nat) (aq rl : Bool) (hv : v < 4294967296) : ∀ p ∈ immP op f v aq rl, PcOk p := by
  have h1 : bitN aq < 2 := by unfold bitN; split <;> decide
  have h2 : bitN rl < 2 := by unfold bitN; split <;> decide
  unfold immP PcOk
  (repeat' split) <;> simp <;> omega
theorem PcOk_reg (f : Int) (rd a b : Nat) (hrd : rd < 32) (ha : a < 32) (hb : b < 32) : ∀ p ∈ regP f rd a b, PcOk p := by
  unfold regP PcOk
  (repeat' split) <;> simp <;> omega
end
section
theorem penc_no {base : Nat} (op rd a b imm : Int) (aq rl : Bool) (h : Heap) (h0 : -9223372036854775808 ≤ imm) (h1 : imm ≤ 9223372036854775807) (hm : mayI op rd a b imm aq rl = false) : WpF S0 base k_enc_Encode [ins op rd a b imm aq rl] h fun v h' => v = .tup [U32 0, V.int 1] ∧ h' = h := by
  have hM := fun base h => isaMay_r (base := base) op rd a b imm aq rl h h0 h1
  rw [hm] at hM
  first | refine zu (A := f_enc_Encode) rfl rfl rfl rfl ?_ | refine zB (A := f_enc_Encode) rfl rfl rfl rfl ?_
  simp only [f_enc_Encode, oD, cD]
  simp only [SQ, SQB, zm, AOp.opds, step, Opd.get, zk, bin, zc, IntKind.signed, zi, zj, zl, zb, unary, ze, zd, za, zo, zr, zh, zf, zg, zp, Cp.isFull, isNil, zq, simprocAttr, -List.reduceReplicate, SQX, V.cells, zn (hM _ _), List.take_succ_cons, List.take_zero]
  rfl
theorem regP_len (f : Int) (rd a b : Nat) : (regP f rd a b).length ≤ 3 := by
  unfold regP
  cases fA f <;> cases fB f <;> by_cases h : rd = 0 <;> simp [h]
theorem immP_len (op f : Int) (v : Nat) (aq rl : Bool) : (immP op f v aq rl).length ≤ 4 := by
  unfold immP
  (repeat' split) <;> simp
set_option maxHeartbeats 2000000 in
theorem penc_r {base : Nat} (op rd a b : Nat) (imm : Int) (aq rl : Bool) (h : Heap) (h0 : -9223372036854775808 ≤ imm) (h1 : imm ≤ 9223372036854775807) (ho1 : 1 ≤ op) (ho2 : op < 88) (hrd : rd < 32) (ha : a < 32) (hb : b < 32) (hm : mayI op rd a b imm aq rl = true) : WpF S0 base k_enc_Encode [ins op rd a b imm aq rl] h fun v h' => v = .tup [U32 (encP op rd a b (uN imm % 4294967296) aq rl), V.int 0] ∧ h' = h := by
  have hM := fun base h => isaMay_r (base := base) op rd a b imm aq rl h h0 h1
  rw [hm] at hM
  have hO := fun base h => eof_r (base := base) op h ho1 ho2
  have hF := fun base h => isaForm_r (base := base) op h
  have hg := regs_r (base := h.length) op imm rd a b aq rl h (Nat.le_refl _) h0 h1 hrd ha hb hm
  have hi := fun base h => eimm_r (base := base) op rd a b imm aq rl h
  have f1 := F_lt (wordT op) 0 7
  have f2 := F_lt (wordT op) 12 3
  have f3 := F_lt (wordT op) 25 7
  have hp3 : ∀ p ∈ [(F (wordT op) 0 7, 0, 7), (F (wordT op) 12 3, 12, 3), (F (wordT op) 25 7, 25, 7)], PcOk p := by
    unfold PcOk; simp; omega
  have hk : ∀ base h, WpF S0 base k_enc_pack [.slc .lit 3 [[U32 (F (wordT op) 0 7), .sc (.int .i64 0), .sc (.int .i64 7)], [U32 (F (wordT op) 12 3), .sc (.int .i64 12), .sc (.int .i64 3)], [U32 (F (wordT op) 25 7), .sc (.int .i64 25), .sc (.int .i64 7)]]] h fun v h' => v = U32 (packN [(F (wordT op) 0 7, 0, 7), (F (wordT op) 12 3, 12, 3), (F (wordT op) 25 7, 25, 7)]) ∧ h' = h := fun base h => pack_r [(F (wordT op) 0 7, 0, 7), (F (wordT op) 12 3, 12, 3), (F (wordT op) 25 7, 25, 7)] .lit h (by simp) hp3
  have hv : uN imm % 4294967296 < 4294967296 := Nat.mod_lt _ (by decide)
  have hall : ∀ p ∈ regP (formI op) rd a b ++ immP op (formI op) (uN imm % 4294967296) aq rl, PcOk p := fun p hp => by
    rcases List.mem_append.1 hp with q | q
    · exact PcOk_reg _ _ _ _ hrd ha hb p q
    · exact PcOk_imm _ _ _ _ _ hv p q
  have hlen : (regP (formI op) rd a b).length + (immP op (formI op) (uN imm % 4294967296) aq rl).length < 1000 := by
    have := regP_len (formI op) rd a b
    have := immP_len op (formI op) (uN imm % 4294967296) aq rl
    omega
  obtain ⟨V2, H2, hap, htk, hpk⟩ := app_pack (h := h) hlen hall
  have hP := packN_lt hall
  have hB3 := packN_lt hp3
  unfold encP baseP
  revert hg hi hap hpk hP hlen hall
  generalize regP (formI op) rd a b = P
  generalize uN imm % 4294967296 = v at *
  generalize immP op (formI op) v aq rl = Q
  intro hg hi _ _ hap hpk hP
  have hor := fun x (hx : x < 2 ^ 32) => or_u32 (a := x) (b := packN (P ++ Q)) hx hP
  have hor1 := hor _ hB3
  have hor2 := hor (F (wordT op) 0 7) (by omega)
  clear hor hB3 hP hp3 f1 f2 f3
  revert hk hor1
  generalize packN [(F (wordT op) 0 7, 0, 7), (F (wordT op) 12 3, 12, 3), (F (wordT op) 25 7, 25, 7)] = K
  intro hk hor1
  generalize packN (P ++ Q) = N at *
  generalize formI op = f at *
  first | refine zu (A := f_enc_Encode) rfl rfl rfl rfl ?_ | refine zB (A := f_enc_Encode) rfl rfl rfl rfl ?_
  simp only [f_enc_Encode, oD, cD]
  (simp only [SQ, zm, AOp.opds, step, Opd.get, zk, bin, zc, IntKind.signed, zi, zj, zl, zb, unary, ze, zd, za, zo, zr, zh, zf, zg, zp, Cp.isFull, isNil, zq, simprocAttr, -List.reduceReplicate, SQX, V.cells, zn (hM _ _), zn (hO _ _), zn (hF _ _), zn (hk _ _), zn hg, zn (hi _ _), zn (hpk _), hap, htk, hor1, hor2, getParts, getParts2, fillPc, fillP3, List.take_succ_cons, List.take_zero]; repeat' ((first | refine condQ_i ?_ ?_ | refine guardQ_t ?_ ?_ | refine guardQ_f ?_ ?_) <;> (intro hb; simp only [SQ, zm, AOp.opds, step, Opd.get, zk, bin, zc, IntKind.signed, zi, zj, zl, zb, unary, ze, zd, za, zo, zr, zh, zf, zg, zp, Cp.isFull, isNil, zq, simprocAttr, -List.reduceReplicate, SQX, V.cells, hb, zn (hM _ _), zn (hO _ _), zn (hF _ _), zn (hk _ _), zn hg, zn (hi _ _), zn (hpk _), hap, htk, hor1, hor2, getParts, getParts2, fillPc, fillP3, List.take_succ_cons, List.take_zero])))
  all_goals clear hM hO hF hk hg hi hpk hap htk hor1 hor2
  · have c1 : ¬ f = 1 := of_decide_eq_false (by assumption)
    have c2 : f = 2 := of_decide_eq_true (by assumption)
    rw [if_pos (.inr c2)]
  · have c1 : ¬ f = 1 := of_decide_eq_false (by assumption)
    have c2 : ¬ f = 2 := of_decide_eq_false (by assumption)
    rw [if_neg (by simp only [c1, c2, or_self, not_false_eq_true])]
  · have c1 : f = 1 := of_decide_eq_true (by assumption)
    rw [if_pos (.inl c1)]
end
section
def decP (w : Nat) : V := if mayI (opN w) (prd w (formI (opN w))) (pA w (formI (opN w))) (pB w (formI (opN w))) (immW w (formI (opN w))) (pAq w (formI (opN w))) (pRl w (formI (opN w))) = true ∧ encP (opN w).toNat (prd w (formI (opN w))).toNat (pA w (formI (opN w))).toNat (pB w (formI (opN w))).toNat (uN (immW w (formI (opN w))) % 4294967296) (pAq w (formI (opN w))) (pRl w (formI (opN w))) = w then partsV w (opN w) else ins 0 0 0 0 w false false
theorem S_bnd (n v : Nat) (hn : n ≤ 30) : -9223372036854775808 ≤ S n v ∧ S n v ≤ 9223372036854775807 := by
  unfold S
  have h1 := Nat.mod_lt v (Nat.two_pow_pos n)
  have h2 := pow_le n 30 hn
  have e : (2 : Int) ^ n = ((2 ^ n : Nat) : Int) := by simp
  rw [e]
  split <;> omega
theorem immW_bnd (w : Nat) (f : Int) : -9223372036854775808 ≤ immW w f ∧ immW w f ≤ 9223372036854775807 := by
  unfold immW
  have h1 := F_lt w 20 6
  have h2 := F_lt w 20 5
  have h3 := F_lt w 20 8
  (repeat' split) <;> first | exact S_bnd _ _ (by decide) | omega
theorem prd_nat (w : Nat) (f : Int) : ∃ k : Nat, prd w f = k ∧ k < 32 := by
  unfold prd; split
  · exact ⟨_, rfl, F_lt w 7 5⟩
  · exact ⟨0, rfl, by decide⟩
theorem pA_nat (w : Nat) (f : Int) : ∃ k : Nat, pA w f = k ∧ k < 32 := by
  unfold pA; split
  · exact ⟨_, rfl, F_lt w 15 5⟩
  · exact ⟨0, rfl, by decide⟩
theorem pB_nat (w : Nat) (f : Int) : ∃ k : Nat, pB w f = k ∧ k < 32 := by
  unfold pB; split
  · exact ⟨_, rfl, F_lt w 20 5⟩
  · exact ⟨0, rfl, by decide⟩
theorem may_rng {op rd a b imm : Int} {aq rl : Bool} (h : mayI op rd a b imm aq rl = true) : 1 ≤ op ∧ op ≤ 87 := by
  refine Classical.byContradiction fun hc => ?_
  have h1 : formI op = -1 := by
    unfold formI letB
    rw [if_neg hc]; rfl
  unfold mayI at h
  rw [h1] at h
  simp at h
set_option maxHeartbeats 1000000 in
theorem decP_r {base : Nat} (w : Nat) (h : Heap) (hw : w < 2 ^ 32) : WpF S0 base k_dec_Decode [U32 w] h fun v h' => v = decP w ∧ h' = h := by
  have hO := fun base h => op_r (base := base) w h hw
  have hP := fun base h => parts_r (base := base) w (opN w) h hw
  obtain ⟨krd, e1, l1⟩ := prd_nat w (formI (opN w))
  obtain ⟨ka, e2, l2⟩ := pA_nat w (formI (opN w))
  obtain ⟨kb, e3, l3⟩ := pB_nat w (formI (opN w))
  obtain ⟨b1, b2⟩ := immW_bnd w (formI (opN w))
  have ew : IntKind.i64.wrap (w : Int) = w := wrapn_i64 (by omega)
  have em : ∀ i : Int, fillParts [.sc (.int .i64 0), .sc (.int .i64 0), .sc (.int .i64 0), .sc (.int .i64 0), .sc (.int .i64 0), .sc (.bool false), .sc (.bool false)] [(0, 1, .sc (.int .i64 0)), (4, 1, .sc (.int .i64 i))] = some [.sc (.int .i64 0), .sc (.int .i64 0), .sc (.int .i64 0), .sc (.int .i64 0), .sc (.int .i64 i), .sc (.bool false), .sc (.bool false)] := fun i => rfl
  unfold decP
  unfold partsV at hP ⊢
  rw [e1, e2, e3] at hP ⊢
  simp only [Int.toNat_natCast]
  generalize immW w (formI (opN w)) = im at *
  generalize pAq w (formI (opN w)) = aq at *
  generalize pRl w (formI (opN w)) = rl at *
  by_cases hm : mayI (opN w) krd ka kb im aq rl = true
  · have hr := may_rng hm
    revert hr hm hP hO
    generalize opN w = o
    intro hO hP hm hr
    obtain ⟨n, rfl⟩ : ∃ n : Nat, o = n := ⟨o.toNat, by omega⟩
    have hE := fun base h => penc_r (base := base) n krd ka kb im aq rl h b1 b2 (by omega) (by omega) l1 l2 l3 hm
    rw [Int.toNat_natCast]
    first | refine zu (A := f_dec_Decode) rfl rfl rfl rfl ?_ | refine zB (A := f_dec_Decode) rfl rfl rfl rfl ?_
    simp only [f_dec_Decode, oD, cD]
    by_cases hc : encP n krd ka kb (uN im % 4294967296) aq rl = w
    · rw [if_pos ⟨hm, hc⟩]
      simp only [SQ, SQB, zm, AOp.opds, step, Opd.get, zk, bin, zc, IntKind.signed, zi, zj, zb, unary, ze, zd, za, zo, zr, zh, zf, zg, zp, Cp.isFull, isNil, zq, simprocAttr, SQX, V.cells, zn (hO _ _), zn (hP _ _), zn (hE _ _), ldE, getParts, em, ew, st_new, ld_new, boxTake, Nat.le_refl, List.take_succ_cons, List.take_zero, hc]
    · rw [if_neg (fun q => hc q.2)]
      simp only [SQ, SQB, zm, AOp.opds, step, Opd.get, zk, bin, zc, IntKind.signed, zi, zj, zb, unary, ze, zd, za, zo, zr, zh, zf, zg, zp, Cp.isFull, isNil, zq, simprocAttr, SQX, V.cells, zn (hO _ _), zn (hP _ _), zn (hE _ _), ldE, getParts, em, ew, st_new, ld_new, boxTake, Nat.le_refl, List.take_succ_cons, List.take_zero, show ¬ ((encP n krd ka kb (uN im % 4294967296) aq rl : Nat) : Int) = w by omega]
  · have hE := fun base h => penc_no (base := base) (opN w) krd ka kb im aq rl h b1 b2 (by simpa using hm)
    rw [if_neg (fun q => hm q.1)]
    first | refine zu (A := f_dec_Decode) rfl rfl rfl rfl ?_ | refine zB (A := f_dec_Decode) rfl rfl rfl rfl ?_
    simp only [f_dec_Decode, oD, cD]
    simp only [SQ, SQB, zm, AOp.opds, step, Opd.get, zk, bin, zc, IntKind.signed, zi, zj, zb, unary, ze, zd, za, zo, zr, zh, zf, zg, zp, Cp.isFull, isNil, zq, simprocAttr, SQX, V.cells, zn (hO _ _), zn (hP _ _), zn (hE _ _), ldE, getParts, em, ew, st_new, ld_new, boxTake, Nat.le_refl, List.take_succ_cons, List.take_zero]
end
end Go.Am
