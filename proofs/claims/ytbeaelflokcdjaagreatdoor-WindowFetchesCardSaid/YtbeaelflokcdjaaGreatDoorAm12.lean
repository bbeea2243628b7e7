/- The abstract machine and what is proved in it, part 12. -/
import Derived.Test.YtbeaelflokcdjaaGreatDoorAm11
set_option linter.unusedVariables false
set_option linter.unusedSimpArgs false
namespace Go.Am
section
set_option linter.unusedVariables false
theorem Sub.mono {a m k : Nat} (h : Sub a m) (hm : m &&& k = m) : Sub a k := by
  unfold Sub at *
  rw [← h, Nat.and_assoc, hm]
theorem Sub.zero (m : Nat) : Sub 0 m := Nat.zero_and m
def disjB : Nat → List Nat → Bool
  | _, [] => true
  | m, x :: r => (m &&& x == 0) && disjB (m ||| x) r
theorem or_fold : ∀ (l : List (Nat × Nat)) (w m : Nat), Sub w m → (∀ p ∈ l, Sub p.1 p.2) → disjB m (l.map (·.2)) = true → l.foldl (fun w p => w ||| p.1) w = w + (l.map (·.1)).sum ∧ Sub (w + (l.map (·.1)).sum) (l.foldl (fun m p => m ||| p.2) m)
  | [], w, m, h, _, _ => by simpa using h
  | p :: r, w, m, h, hp, hd => by
    simp only [List.map_cons, disjB, Bool.and_eq_true, beq_iff_eq] at hd
    have h1 := hp p (by simp)
    have e := Sub.sum h h1 hd.1
    have := or_fold r (w + p.1) (m ||| p.2) (Sub.add h h1 hd.1) (fun q hq => hp q (by simp [hq])) hd.2
    simp only [List.foldl_cons, List.map_cons, List.sum_cons, e, ← Nat.add_assoc]
    exact this
theorem F_and (w a n : Nat) : w &&& ((2 ^ n - 1) * 2 ^ a) = F w a n * 2 ^ a := by
  apply Nat.eq_of_testBit_eq
  intro i
  rw [Nat.testBit_and, Nat.testBit_mul_two_pow, Nat.testBit_mul_two_pow, Nat.testBit_two_pow_sub_one, F, Nat.testBit_mod_two_pow, Nat.testBit_div_two_pow]
  by_cases h1 : a ≤ i
  · by_cases h2 : i - a < n <;> simp [h1, h2, show i - a + a = i by omega, show a + (i - a) = i by omega]
  · simp [h1]
theorem F_none {w m a n : Nat} (h : Sub w m) (hm : m &&& ((2 ^ n - 1) * 2 ^ a) = 0) : F w a n * 2 ^ a = 0 := by
  rw [← F_and, ← h, Nat.and_assoc, hm, Nat.and_zero]
theorem putN_add {w m a n v : Nat} (h : Sub w m) (hm : m &&& ((2 ^ n - 1) * 2 ^ a) = 0) : putN w a n v = w + F v 0 n * 2 ^ a := by
  unfold putN
  rw [F_none h hm, Nat.sub_zero]
  simp [F]
theorem pack_fold : ∀ (l : List (Nat × Nat × Nat)) (w m : Nat), Sub w m → disjB m (l.map fun p => (2 ^ p.2.2 - 1) * 2 ^ p.2.1) = true → l.foldl (fun w p => putN w p.2.1 p.2.2 p.1) w = w + (l.map fun p => F p.1 0 p.2.2 * 2 ^ p.2.1).sum ∧ Sub (w + (l.map fun p => F p.1 0 p.2.2 * 2 ^ p.2.1).sum) (l.foldl (fun m p => m ||| (2 ^ p.2.2 - 1) * 2 ^ p.2.1) m)
  | [], w, m, h, _ => by simpa using h
  | p :: r, w, m, h, hd => by
    simp only [List.map_cons, disjB, Bool.and_eq_true, beq_iff_eq] at hd
    have e := putN_add (v := p.1) h hd.1
    have := pack_fold r (w + F p.1 0 p.2.2 * 2 ^ p.2.1) (m ||| (2 ^ p.2.2 - 1) * 2 ^ p.2.1) (Sub.add h (Sub.F p.1 0 p.2.2 p.2.1) hd.1) hd.2
    simp only [List.foldl_cons, List.map_cons, List.sum_cons, e, ← Nat.add_assoc]
    exact this
theorem packN_sum (l : List (Nat × Nat × Nat)) (hd : disjB 0 (l.map fun p => (2 ^ p.2.2 - 1) * 2 ^ p.2.1) = true) : packN l = (l.map fun p => F p.1 0 p.2.2 * 2 ^ p.2.1).sum ∧ Sub (l.map fun p => F p.1 0 p.2.2 * 2 ^ p.2.1).sum (l.foldl (fun m p => m ||| (2 ^ p.2.2 - 1) * 2 ^ p.2.1) 0) := by
  have := pack_fold l 0 0 (Sub.zero 0) hd
  rw [Nat.zero_add] at this
  exact this
theorem uN_S (n v : Nat) (h1 : 1 ≤ n) (hn : n ≤ 30) : uN (S n v) % 2 ^ n = v % 2 ^ n := by
  have hp : (0 : Nat) < 2 ^ n := Nat.two_pow_pos n
  have hd : ∃ k : Nat, 18446744073709551616 = 2 ^ n * k := ⟨2 ^ (64 - n), by rw [← Nat.pow_add, show n + (64 - n) = 64 by omega]⟩
  obtain ⟨k, hk⟩ := hd
  have h2 := Nat.mod_lt v hp
  have h3 := pow_le n 30 hn
  have e : (2 : Int) ^ n = ((2 ^ n : Nat) : Int) := by simp
  have hu : uN (S n v) = v % 2 ^ n ∨ uN (S n v) + 2 ^ n = v % 2 ^ n + 18446744073709551616 := by
    unfold S uN
    rw [e]
    split
    · left; omega
    · right; omega
  rcases hu with hu | hu
  · rw [hu, Nat.mod_mod]
  · have h4 : (uN (S n v) + 2 ^ n) % 2 ^ n = (v % 2 ^ n + 2 ^ n * k) % 2 ^ n := by rw [hu, ← hk]
    rw [Nat.add_mod_right, Nat.add_mul_mod_self_left, Nat.mod_mod] at h4
    exact h4
theorem F_low {x y n : Nat} (a k : Nat) (h : x % 2 ^ n = y % 2 ^ n) (hk : a + k ≤ n) : F x a k = F y a k := by
  have e : ∀ z : Nat, F z a k = F (z % 2 ^ n) a k := fun z => by
    apply Nat.eq_of_testBit_eq
    intro i
    unfold F
    rw [Nat.testBit_mod_two_pow, Nat.testBit_mod_two_pow, Nat.testBit_div_two_pow, Nat.testBit_div_two_pow, Nat.testBit_mod_two_pow]
    by_cases hi : i < k
    · simp [hi, show a + i < n by omega]; omega
    · simp [hi]
  rw [e x, e y, h]
-- PRINTED by wd_genP.py
def AllSub : List (Nat × Nat) → Prop
  | [] => True
  | p :: r => Sub p.1 p.2 ∧ AllSub r
theorem AllSub.all : ∀ {l : List (Nat × Nat)}, AllSub l → ∀ p ∈ l, Sub p.1 p.2
  | _ :: _, h, q, hq => by
    rcases List.mem_cons.1 hq with rfl | hq
    · exact h.1
    · exact h.2.all q hq
theorem fd_ex : ∃ f : Nat → Nat → Nat → Nat → Nat, ∀ x a n k, f x a n k = F x a n * 2 ^ k := ⟨_, fun _ _ _ _ => rfl⟩
noncomputable def fd : Nat → Nat → Nat → Nat → Nat := Classical.choose fd_ex
theorem fd_eq (x a n k : Nat) : fd x a n k = F x a n * 2 ^ k := Classical.choose_spec fd_ex x a n k
theorem fd_lit (x a n k m : Nat) (h : 2 ^ k = m) : F x a n * m = fd x a n k := by rw [fd_eq, h]
theorem fd_sub (x a n k m : Nat) (hm : (2 ^ n - 1) * 2 ^ k = m) : Sub (fd x a n k) m := by
  rw [fd_eq, ← hm]
  exact Sub.F x a n k
theorem fd_0 (a n k : Nat) : fd 0 a n k = 0 := by rw [fd_eq]; simp [F]
theorem fd_F (w a n k : Nat) : fd (F w a n) 0 n k = fd w a n k := by rw [fd_eq, fd_eq]; unfold F; rw [Nat.pow_zero, Nat.div_one, Nat.mod_mod]
theorem fd_of {x y a b n : Nat} (h : F x a n = F y b n) (k : Nat) : fd x a n k = fd y b n k := by rw [fd_eq, fd_eq, h]
theorem fd_dv (v j n k m : Nat) (h : 2 ^ j = m) : fd (v / m) 0 n k = fd v j n k := by rw [fd_eq, fd_eq, ← h]; unfold F; rw [Nat.pow_zero, Nat.div_one]
theorem pk_step {w v a n : Nat} {r : List (Nat × Nat × Nat)} {m mm k2 : Nat} (h : Sub w m) (hm : (2 ^ n - 1) * 2 ^ a = mm) (hd : m &&& mm = 0) (h2 : m ||| mm = k2) : ((v, a, n) :: r).foldl (fun w p => putN w p.2.1 p.2.2 p.1) w = r.foldl (fun w p => putN w p.2.1 p.2.2 p.1) (w + fd v 0 n a) ∧ Sub (w + fd v 0 n a) k2 := by
  subst hm h2
  rw [fd_eq]
  refine ⟨?_, Sub.add h (Sub.F v 0 n a) hd⟩
  rw [List.foldl_cons, putN_add h hd]
theorem or_step {w x m mm k2 : Nat} (h : Sub w m) (hx : Sub x mm) (hd : m &&& mm = 0) (h2 : m ||| mm = k2) : w ||| x = w + x ∧ Sub (w + x) k2 := by
  subst h2
  exact ⟨Sub.sum h hx hd, Sub.add h hx hd⟩
theorem encT_fd (op rd a b : Nat) : encT op rd a b = wordT op ||| fd rd 0 5 7 ||| fd a 0 5 15 ||| fd b 0 5 20 := by
  unfold encT
  simp only [fd_eq, Nat.reducePow]
theorem encU_0 (t m : Nat) : encU 0 t m = t := by unfold encU; simp only [Int.reduceEq, if_true, if_false]
theorem encU_1 (t m : Nat) : encU 1 t m = t ||| fd m 0 20 12 := by unfold encU; simp only [Int.reduceEq, if_true, if_false, fd_eq, Nat.reducePow]
theorem encU_2 (t m : Nat) : encU 2 t m = t ||| fd m 20 1 31 ||| fd m 1 10 21 ||| fd m 11 1 20 ||| fd m 12 8 12 := by unfold encU; simp only [Int.reduceEq, if_true, if_false, fd_eq, Nat.reducePow]
theorem encU_3 (t m : Nat) : encU 3 t m = t ||| fd m 0 12 20 := by unfold encU; simp only [Int.reduceEq, if_true, if_false, fd_eq, Nat.reducePow]
theorem encU_4 (t m : Nat) : encU 4 t m = (t &&& 4294963327) ||| fd m 12 1 31 ||| fd m 5 6 25 ||| fd m 1 4 8 ||| fd m 11 1 7 := by unfold encU; simp only [Int.reduceEq, if_true, if_false, fd_eq, Nat.reducePow]
theorem encU_5 (t m : Nat) : encU 5 t m = (t &&& 4294963327) ||| fd m 5 7 25 ||| fd m 0 5 7 := by unfold encU; simp only [Int.reduceEq, if_true, if_false, fd_eq, Nat.reducePow]
theorem encU_6 (t m : Nat) : encU 6 t m = t := by unfold encU; simp only [Int.reduceEq, if_true, if_false]
theorem encU_7 (t m : Nat) : encU 7 t m = t ||| fd m 0 6 20 := by unfold encU; simp only [Int.reduceEq, if_true, if_false, fd_eq, Nat.reducePow]
theorem encU_8 (t m : Nat) : encU 8 t m = t ||| fd m 0 5 20 := by unfold encU; simp only [Int.reduceEq, if_true, if_false, fd_eq, Nat.reducePow]
theorem encU_9 (t m : Nat) : encU 9 t m = t ||| fd m 0 8 20 := by unfold encU; simp only [Int.reduceEq, if_true, if_false, fd_eq, Nat.reducePow]
theorem encU_10 (t m : Nat) : encU 10 t m = t := by unfold encU; simp only [Int.reduceEq, if_true, if_false]
theorem encU_11 (t m : Nat) : encU 11 t m = t := by unfold encU; simp only [Int.reduceEq, if_true, if_false]
theorem encR_ff (f : Int) (t m : Nat) : encR f t m false false = encU f t m := by unfold encR; simp only [if_false, Bool.false_eq_true]
def maskF (f : Int) : Nat := if f = 0 then 1048703 else if f = 1 then 127 else if f = 2 then 127 else if f = 3 then 28799 else if f = 4 then 28799 else if f = 5 then 28799 else if f = 6 then 4261441663 else if f = 7 then 4227887231 else if f = 8 then 4261441663 else if f = 9 then 28799 else if f = 10 then 4160778367 else if f = 11 then 4160778367 else 0
theorem tabMask : ∀ op : Nat, op < 88 → 1 ≤ op → Sub (wordT op) (maskF (formI op)) := by unfold Sub; decide +kernel
theorem tabBase : ∀ op : Nat, op < 88 → 1 ≤ op → baseP op (formI op) = if op = 65 then 115 else wordT op := by decide +kernel
theorem tabSum : ∀ op : Nat, op < 88 → 1 ≤ op → formI op ≠ 0 → wordT op = F (wordT op) 0 7 + F (wordT op) 12 3 * 4096 + F (wordT op) 25 7 * 33554432 := by decide +kernel
theorem tabZ : ∀ op : Nat, op < 88 → 1 ≤ op → formI op = 0 → op = 64 ∨ op = 65 := by decide +kernel
theorem tabNZ : ∀ op : Nat, op < 88 → 1 ≤ op → formI op ≠ 0 → op ≠ 65 := by decide +kernel
theorem tabG : ∀ op : Nat, op < 88 → 1 ≤ op → (formI op = 1 ∨ formI op = 2) → F (wordT op) 12 3 = 0 ∧ F (wordT op) 25 7 = 0 := by decide +kernel
theorem tabS : ∀ op : Nat, op < 88 → 1 ≤ op → (formI op = 3 ∨ formI op = 4 ∨ formI op = 5 ∨ formI op = 9) → F (wordT op) 25 7 = 0 := by decide +kernel
theorem tab2 : ∀ op : Nat, op < 88 → 1 ≤ op → formI op = 7 → F (wordT op) 25 7 % 2 = 0 := by decide +kernel
theorem tab4 : ∀ op : Nat, op < 88 → 1 ≤ op → (formI op = 10 ∨ formI op = 11) → F (wordT op) 25 7 % 4 = 0 := by decide +kernel
theorem tabN : ∀ op : Nat, op < 88 → 1 ≤ op → formI op ≠ 0 → F (wordT op) 0 7 ≠ 115 := by decide +kernel
theorem opU : ∀ op : Nat, op < 88 → 1 ≤ op → (formI op = 1 ∨ formI op = 2) → ∀ g : Nat, g < 8 → ∀ s : Nat, s < 128 → opF (F (wordT op) 0 7) g s 0 = op := by decide +kernel
theorem opI : ∀ op : Nat, op < 88 → 1 ≤ op → (formI op = 3 ∨ formI op = 4 ∨ formI op = 5 ∨ formI op = 9) → ∀ s : Nat, s < 128 → opF (F (wordT op) 0 7) (F (wordT op) 12 3) s 0 = op := by decide +kernel
theorem opR : ∀ op : Nat, op < 88 → 1 ≤ op → (formI op = 6 ∨ formI op = 8) → opF (F (wordT op) 0 7) (F (wordT op) 12 3) (F (wordT op) 25 7) 0 = op := by decide +kernel
theorem opH : ∀ op : Nat, op < 88 → 1 ≤ op → formI op = 7 → ∀ s : Nat, s < 2 → opF (F (wordT op) 0 7) (F (wordT op) 12 3) (F (wordT op) 25 7 + s) 0 = op := by decide +kernel
theorem opA : ∀ op : Nat, op < 88 → 1 ≤ op → (formI op = 10 ∨ formI op = 11) → ∀ s : Nat, s < 4 → opF (F (wordT op) 0 7) (F (wordT op) 12 3) (F (wordT op) 25 7 + s) 0 = op := by decide +kernel
theorem opF_w (o g s x : Nat) (h : o ≠ 115) : opF o g s x = opF o g s 0 := by
  unfold opF
  simp only [show ¬ (o : Int) = 115 by omega, if_false]
theorem uN_F (w a n : Nat) (h : n ≤ 32) : uN ((F w a n : Nat) : Int) = F w a n := uN_nat (Nat.lt_of_lt_of_le (F_lt w a n) (Nat.le_trans (pow_le n 32 h) (by decide)))
theorem uN_F0 (w a n : Nat) (h : n ≤ 32) : uN ((F w a n * 2 ^ 0 : Nat) : Int) = F w a n := by rw [Nat.pow_zero, Nat.mul_one]; exact uN_F w a n h
theorem uN_zero : uN 0 = 0 := rfl
theorem mod32 {x y n : Nat} (h : x % 2 ^ n = y % 2 ^ n) (hn : n ≤ 32) : x % 4294967296 % 2 ^ n = y % 2 ^ n := by
  rw [← h]
  obtain ⟨k, hk⟩ : ∃ k : Nat, 4294967296 = 2 ^ n * k := ⟨2 ^ (32 - n), by rw [← Nat.pow_add, show n + (32 - n) = 32 by omega]⟩
  rw [hk, Nat.mod_mul_right_mod]
theorem orR_1 (T rd a b m : Nat) (hT : Sub T 127) : (T ||| fd rd 0 5 7 ||| fd 0 0 5 15 ||| fd 0 0 5 20) ||| fd m 0 20 12 = T + (fd rd 0 5 7 + fd m 0 20 12) := by
  simp only [fd_0, Nat.or_zero]
  have O0 := or_step (w := T) (x := fd rd 0 5 7) (m := 127) (mm := 3968) (k2 := 4095) hT (fd_sub rd 0 5 7 3968 (by decide)) (by decide) (by decide)
  have O1 := or_step (w := T + fd rd 0 5 7) (x := fd m 0 20 12) (m := 4095) (mm := 4294963200) (k2 := 4294967295) O0.2 (fd_sub m 0 20 12 4294963200 (by decide)) (by decide) (by decide)
  rw [O0.1, O1.1]
  try omega
theorem orP_1 (T op rd a b v : Nat) (aq rl : Bool) (hT : Sub T 127) (ho : op ≠ 65) : T ||| packN (regP 1 rd 0 0 ++ immP op 1 v aq rl) = T + (fd rd 0 5 7 + fd v 0 20 12) := by
  by_cases z : rd = 0
  · have L : regP 1 rd 0 0 ++ immP op 1 v aq rl = [(v, 12, 20)] := by
      unfold regP immP
      rw [show fA 1 = false by decide, show fB 1 = false by decide, if_pos z]
      simp
    have P0 := pk_step (w := 0) (v := v) (a := 12) (n := 20) (r := []) (m := 0) (mm := 4294963200) (k2 := 4294963200) (Sub.zero 0) (by decide) (by decide) (by decide)
    have P : packN [(v, 12, 20)] = 0 + fd (v) 0 20 12 := by
      unfold packN
      rw [P0.1]
      exact List.foldl_nil
    rw [L, P, Sub.sum hT P0.2 (by decide)]
    rw [z, fd_0]
    try omega
  · have L : regP 1 rd 0 0 ++ immP op 1 v aq rl = [(rd, 7, 5), (v, 12, 20)] := by
      unfold regP immP
      rw [show fA 1 = false by decide, show fB 1 = false by decide, if_neg z]
      simp
    have P0 := pk_step (w := 0) (v := rd) (a := 7) (n := 5) (r := [(v, 12, 20)]) (m := 0) (mm := 3968) (k2 := 3968) (Sub.zero 0) (by decide) (by decide) (by decide)
    have P1 := pk_step (w := 0 + fd (rd) 0 5 7) (v := v) (a := 12) (n := 20) (r := []) (m := 3968) (mm := 4294963200) (k2 := 4294967168) P0.2 (by decide) (by decide) (by decide)
    have P : packN [(rd, 7, 5), (v, 12, 20)] = 0 + fd (rd) 0 5 7 + fd (v) 0 20 12 := by
      unfold packN
      rw [P0.1, P1.1]
      exact List.foldl_nil
    rw [L, P, Sub.sum hT P1.2 (by decide)]
    try omega
theorem fit_1 (w op : Nat) (h1 : 1 ≤ op) (h2 : op < 88) (hf : formI op = 1) : encR 1 (encT op (uN (prd w 1)) (uN (pA w 1)) (uN (pB w 1))) (uN (immW w 1)) (pAq w 1) (pRl w 1) = wordT op + (fd w 7 5 7 + fd w 12 20 12) ∧ encP op (prd w 1).toNat (pA w 1).toNat (pB w 1).toNat (uN (immW w 1) % 4294967296) (pAq w 1) (pRl w 1) = wordT op + (fd w 7 5 7 + fd w 12 20 12) := by
  have hm := tabMask op h2 h1
  have hb := tabBase op h2 h1
  have ho := tabNZ op h2 h1 (by rw [hf]; decide)
  rw [hf] at hm hb
  rw [if_neg ho] at hb
  rw [show maskF 1 = 127 by decide] at hm
  have e1 : prd w 1 = ((F w 7 5 : Nat) : Int) := by unfold prd; rw [if_pos (show fRd 1 = true by decide)]
  have e2 : pA w 1 = 0 := by unfold pA; rw [if_neg (show ¬ fA 1 = true by decide)]
  have e3 : pB w 1 = 0 := by unfold pB; rw [if_neg (show ¬ fB 1 = true by decide)]
  have mW : immW w 1 = S 20 (F w 12 20 * 2 ^ 0) := by unfold immW; simp only [Int.reduceEq, if_true, if_false]
  have hi : uN (immW w 1) % 2 ^ 20 = (F w 12 20 * 2 ^ 0) % 2 ^ 20 := by rw [mW]; exact uN_S 20 _ (by decide) (by decide)
  have hj := mod32 hi (by decide)
  clear mW
  revert hi hj
  generalize uN (immW w 1) % 4294967296 = v
  generalize uN (immW w 1) = m
  intro hi hj
  have s12 : F (F w 12 20 * 2 ^ 0) 0 20 = F w 12 20 := by
    have := F_lt w 12 20
    revert this
    generalize F w 12 20 = x12
    simp only [F, Nat.reducePow]
    omega
  have i12 : fd m 0 20 12 = fd w 12 20 12 := fd_of ((F_low 0 20 hi (by decide)).trans s12) 12
  have p12 : fd v 0 20 12 = fd w 12 20 12 := fd_of ((F_low 0 20 hj (by decide)).trans s12) 12
  have a0 : pAq w 1 = false := by unfold pAq; rw [show fO 1 = false by decide, Bool.false_and]
  have r0 : pRl w 1 = false := by unfold pRl; rw [show fO 1 = false by decide, Bool.false_and]
  rw [a0, r0]
  rw [e1, e2, e3, encT_fd]
  rw [uN_F w 7 5 (by decide)]
  rw [uN_zero]
  constructor
  · rw [encR_ff, encU_1, orR_1 (wordT op) (F w 7 5) 0 0 m hm]
    simp only [fd_F, i12]
  · unfold encP
    rw [hf, hb]
    simp only [Int.toNat_natCast, Int.toNat_zero]
    rw [orP_1 (wordT op) op (F w 7 5) 0 0 v _ _ hm ho]
    simp only [fd_F, p12]
theorem orR_2 (T rd a b m : Nat) (hT : Sub T 127) : (T ||| fd rd 0 5 7 ||| fd 0 0 5 15 ||| fd 0 0 5 20) ||| fd m 20 1 31 ||| fd m 1 10 21 ||| fd m 11 1 20 ||| fd m 12 8 12 = T + (fd rd 0 5 7 + fd m 20 1 31 + fd m 1 10 21 + fd m 11 1 20 + fd m 12 8 12) := by
  simp only [fd_0, Nat.or_zero]
  have O0 := or_step (w := T) (x := fd rd 0 5 7) (m := 127) (mm := 3968) (k2 := 4095) hT (fd_sub rd 0 5 7 3968 (by decide)) (by decide) (by decide)
  have O1 := or_step (w := T + fd rd 0 5 7) (x := fd m 20 1 31) (m := 4095) (mm := 2147483648) (k2 := 2147487743) O0.2 (fd_sub m 20 1 31 2147483648 (by decide)) (by decide) (by decide)
  have O2 := or_step (w := T + fd rd 0 5 7 + fd m 20 1 31) (x := fd m 1 10 21) (m := 2147487743) (mm := 2145386496) (k2 := 4292874239) O1.2 (fd_sub m 1 10 21 2145386496 (by decide)) (by decide) (by decide)
  have O3 := or_step (w := T + fd rd 0 5 7 + fd m 20 1 31 + fd m 1 10 21) (x := fd m 11 1 20) (m := 4292874239) (mm := 1048576) (k2 := 4293922815) O2.2 (fd_sub m 11 1 20 1048576 (by decide)) (by decide) (by decide)
  have O4 := or_step (w := T + fd rd 0 5 7 + fd m 20 1 31 + fd m 1 10 21 + fd m 11 1 20) (x := fd m 12 8 12) (m := 4293922815) (mm := 1044480) (k2 := 4294967295) O3.2 (fd_sub m 12 8 12 1044480 (by decide)) (by decide) (by decide)
  rw [O0.1, O1.1, O2.1, O3.1, O4.1]
  try omega
theorem orP_2 (T op rd a b v : Nat) (aq rl : Bool) (hT : Sub T 127) (ho : op ≠ 65) : T ||| packN (regP 2 rd 0 0 ++ immP op 2 v aq rl) = T + (fd rd 0 5 7 + fd v 20 1 31 + fd v 1 10 21 + fd v 11 1 20 + fd v 12 8 12) := by
  by_cases z : rd = 0
  · have L : regP 2 rd 0 0 ++ immP op 2 v aq rl = [(v / 1048576, 31, 1), (v / 2, 21, 10), (v / 2048, 20, 1), (v / 4096, 12, 8)] := by
      unfold regP immP
      rw [show fA 2 = false by decide, show fB 2 = false by decide, if_pos z]
      simp
    have P0 := pk_step (w := 0) (v := v / 1048576) (a := 31) (n := 1) (r := [(v / 2, 21, 10), (v / 2048, 20, 1), (v / 4096, 12, 8)]) (m := 0) (mm := 2147483648) (k2 := 2147483648) (Sub.zero 0) (by decide) (by decide) (by decide)
    have P1 := pk_step (w := 0 + fd (v / 1048576) 0 1 31) (v := v / 2) (a := 21) (n := 10) (r := [(v / 2048, 20, 1), (v / 4096, 12, 8)]) (m := 2147483648) (mm := 2145386496) (k2 := 4292870144) P0.2 (by decide) (by decide) (by decide)
    have P2 := pk_step (w := 0 + fd (v / 1048576) 0 1 31 + fd (v / 2) 0 10 21) (v := v / 2048) (a := 20) (n := 1) (r := [(v / 4096, 12, 8)]) (m := 4292870144) (mm := 1048576) (k2 := 4293918720) P1.2 (by decide) (by decide) (by decide)
    have P3 := pk_step (w := 0 + fd (v / 1048576) 0 1 31 + fd (v / 2) 0 10 21 + fd (v / 2048) 0 1 20) (v := v / 4096) (a := 12) (n := 8) (r := []) (m := 4293918720) (mm := 1044480) (k2 := 4294963200) P2.2 (by decide) (by decide) (by decide)
    have P : packN [(v / 1048576, 31, 1), (v / 2, 21, 10), (v / 2048, 20, 1), (v / 4096, 12, 8)] = 0 + fd (v / 1048576) 0 1 31 + fd (v / 2) 0 10 21 + fd (v / 2048) 0 1 20 + fd (v / 4096) 0 8 12 := by
      unfold packN
      rw [P0.1, P1.1, P2.1, P3.1]
      exact List.foldl_nil
    rw [L, P, Sub.sum hT P3.2 (by decide)]
    rw [fd_dv v 20 1 31 1048576 (by decide)]
    rw [fd_dv v 1 10 21 2 (by decide)]
    rw [fd_dv v 11 1 20 2048 (by decide)]
    rw [fd_dv v 12 8 12 4096 (by decide)]
    rw [z, fd_0]
    try omega
  · have L : regP 2 rd 0 0 ++ immP op 2 v aq rl = [(rd, 7, 5), (v / 1048576, 31, 1), (v / 2, 21, 10), (v / 2048, 20, 1), (v / 4096, 12, 8)] := by
      unfold regP immP
      rw [show fA 2 = false by decide, show fB 2 = false by decide, if_neg z]
      simp
    have P0 := pk_step (w := 0) (v := rd) (a := 7) (n := 5) (r := [(v / 1048576, 31, 1), (v / 2, 21, 10), (v / 2048, 20, 1), (v / 4096, 12, 8)]) (m := 0) (mm := 3968) (k2 := 3968) (Sub.zero 0) (by decide) (by decide) (by decide)
    have P1 := pk_step (w := 0 + fd (rd) 0 5 7) (v := v / 1048576) (a := 31) (n := 1) (r := [(v / 2, 21, 10), (v / 2048, 20, 1), (v / 4096, 12, 8)]) (m := 3968) (mm := 2147483648) (k2 := 2147487616) P0.2 (by decide) (by decide) (by decide)
    have P2 := pk_step (w := 0 + fd (rd) 0 5 7 + fd (v / 1048576) 0 1 31) (v := v / 2) (a := 21) (n := 10) (r := [(v / 2048, 20, 1), (v / 4096, 12, 8)]) (m := 2147487616) (mm := 2145386496) (k2 := 4292874112) P1.2 (by decide) (by decide) (by decide)
    have P3 := pk_step (w := 0 + fd (rd) 0 5 7 + fd (v / 1048576) 0 1 31 + fd (v / 2) 0 10 21) (v := v / 2048) (a := 20) (n := 1) (r := [(v / 4096, 12, 8)]) (m := 4292874112) (mm := 1048576) (k2 := 4293922688) P2.2 (by decide) (by decide) (by decide)
    have P4 := pk_step (w := 0 + fd (rd) 0 5 7 + fd (v / 1048576) 0 1 31 + fd (v / 2) 0 10 21 + fd (v / 2048) 0 1 20) (v := v / 4096) (a := 12) (n := 8) (r := []) (m := 4293922688) (mm := 1044480) (k2 := 4294967168) P3.2 (by decide) (by decide) (by decide)
    have P : packN [(rd, 7, 5), (v / 1048576, 31, 1), (v / 2, 21, 10), (v / 2048, 20, 1), (v / 4096, 12, 8)] = 0 + fd (rd) 0 5 7 + fd (v / 1048576) 0 1 31 + fd (v / 2) 0 10 21 + fd (v / 2048) 0 1 20 + fd (v / 4096) 0 8 12 := by
      unfold packN
      rw [P0.1, P1.1, P2.1, P3.1, P4.1]
      exact List.foldl_nil
    rw [L, P, Sub.sum hT P4.2 (by decide)]
    rw [fd_dv v 20 1 31 1048576 (by decide)]
    rw [fd_dv v 1 10 21 2 (by decide)]
    rw [fd_dv v 11 1 20 2048 (by decide)]
    rw [fd_dv v 12 8 12 4096 (by decide)]
    try omega
theorem fit_2 (w op : Nat) (h1 : 1 ≤ op) (h2 : op < 88) (hf : formI op = 2) : encR 2 (encT op (uN (prd w 2)) (uN (pA w 2)) (uN (pB w 2))) (uN (immW w 2)) (pAq w 2) (pRl w 2) = wordT op + (fd w 7 5 7 + fd w 31 1 31 + fd w 21 10 21 + fd w 20 1 20 + fd w 12 8 12) ∧ encP op (prd w 2).toNat (pA w 2).toNat (pB w 2).toNat (uN (immW w 2) % 4294967296) (pAq w 2) (pRl w 2) = wordT op + (fd w 7 5 7 + fd w 31 1 31 + fd w 21 10 21 + fd w 20 1 20 + fd w 12 8 12) := by
  have hm := tabMask op h2 h1
  have hb := tabBase op h2 h1
  have ho := tabNZ op h2 h1 (by rw [hf]; decide)
  rw [hf] at hm hb
  rw [if_neg ho] at hb
  rw [show maskF 2 = 127 by decide] at hm
  have e1 : prd w 2 = ((F w 7 5 : Nat) : Int) := by unfold prd; rw [if_pos (show fRd 2 = true by decide)]
  have e2 : pA w 2 = 0 := by unfold pA; rw [if_neg (show ¬ fA 2 = true by decide)]
  have e3 : pB w 2 = 0 := by unfold pB; rw [if_neg (show ¬ fB 2 = true by decide)]
  have mW : immW w 2 = S 21 (bJ w) := by unfold immW; simp only [Int.reduceEq, if_true, if_false]
  have hi : uN (immW w 2) % 2 ^ 21 = (bJ w) % 2 ^ 21 := by rw [mW]; exact uN_S 21 _ (by decide) (by decide)
  have hj := mod32 hi (by decide)
  clear mW
  revert hi hj
  generalize uN (immW w 2) % 4294967296 = v
  generalize uN (immW w 2) = m
  intro hi hj
  have s31 : F (bJ w) 20 1 = F w 31 1 := by
    unfold bJ
    have := F_lt w 31 1
    revert this
    generalize F w 31 1 = x31
    have := F_lt w 21 10
    revert this
    generalize F w 21 10 = x21
    have := F_lt w 20 1
    revert this
    generalize F w 20 1 = x20
    have := F_lt w 12 8
    revert this
    generalize F w 12 8 = x12
    simp only [F, Nat.reducePow]
    omega
  have i31 : fd m 20 1 31 = fd w 31 1 31 := fd_of ((F_low 20 1 hi (by decide)).trans s31) 31
  have p31 : fd v 20 1 31 = fd w 31 1 31 := fd_of ((F_low 20 1 hj (by decide)).trans s31) 31
  have s21 : F (bJ w) 1 10 = F w 21 10 := by
    unfold bJ
    have := F_lt w 31 1
    revert this
    generalize F w 31 1 = x31
    have := F_lt w 21 10
    revert this
    generalize F w 21 10 = x21
    have := F_lt w 20 1
    revert this
    generalize F w 20 1 = x20
    have := F_lt w 12 8
    revert this
    generalize F w 12 8 = x12
    simp only [F, Nat.reducePow]
    omega
  have i21 : fd m 1 10 21 = fd w 21 10 21 := fd_of ((F_low 1 10 hi (by decide)).trans s21) 21
  have p21 : fd v 1 10 21 = fd w 21 10 21 := fd_of ((F_low 1 10 hj (by decide)).trans s21) 21
  have s20 : F (bJ w) 11 1 = F w 20 1 := by
    unfold bJ
    have := F_lt w 31 1
    revert this
    generalize F w 31 1 = x31
    have := F_lt w 21 10
    revert this
    generalize F w 21 10 = x21
    have := F_lt w 20 1
    revert this
    generalize F w 20 1 = x20
    have := F_lt w 12 8
    revert this
    generalize F w 12 8 = x12
    simp only [F, Nat.reducePow]
    omega
  have i20 : fd m 11 1 20 = fd w 20 1 20 := fd_of ((F_low 11 1 hi (by decide)).trans s20) 20
  have p20 : fd v 11 1 20 = fd w 20 1 20 := fd_of ((F_low 11 1 hj (by decide)).trans s20) 20
  have s12 : F (bJ w) 12 8 = F w 12 8 := by
    unfold bJ
    have := F_lt w 31 1
    revert this
    generalize F w 31 1 = x31
    have := F_lt w 21 10
    revert this
    generalize F w 21 10 = x21
    have := F_lt w 20 1
    revert this
    generalize F w 20 1 = x20
    have := F_lt w 12 8
    revert this
    generalize F w 12 8 = x12
    simp only [F, Nat.reducePow]
    omega
  have i12 : fd m 12 8 12 = fd w 12 8 12 := fd_of ((F_low 12 8 hi (by decide)).trans s12) 12
  have p12 : fd v 12 8 12 = fd w 12 8 12 := fd_of ((F_low 12 8 hj (by decide)).trans s12) 12
  have a0 : pAq w 2 = false := by unfold pAq; rw [show fO 2 = false by decide, Bool.false_and]
  have r0 : pRl w 2 = false := by unfold pRl; rw [show fO 2 = false by decide, Bool.false_and]
  rw [a0, r0]
  rw [e1, e2, e3, encT_fd]
  rw [uN_F w 7 5 (by decide)]
  rw [uN_zero]
  constructor
  · rw [encR_ff, encU_2, orR_2 (wordT op) (F w 7 5) 0 0 m hm]
    simp only [fd_F, i31, i21, i20, i12]
  · unfold encP
    rw [hf, hb]
    simp only [Int.toNat_natCast, Int.toNat_zero]
    rw [orP_2 (wordT op) op (F w 7 5) 0 0 v _ _ hm ho]
    simp only [fd_F, p31, p21, p20, p12]
theorem orR_3 (T rd a b m : Nat) (hT : Sub T 28799) : (T ||| fd rd 0 5 7 ||| fd a 0 5 15 ||| fd 0 0 5 20) ||| fd m 0 12 20 = T + (fd rd 0 5 7 + fd a 0 5 15 + fd m 0 12 20) := by
  simp only [fd_0, Nat.or_zero]
  have O0 := or_step (w := T) (x := fd rd 0 5 7) (m := 28799) (mm := 3968) (k2 := 32767) hT (fd_sub rd 0 5 7 3968 (by decide)) (by decide) (by decide)
  have O1 := or_step (w := T + fd rd 0 5 7) (x := fd a 0 5 15) (m := 32767) (mm := 1015808) (k2 := 1048575) O0.2 (fd_sub a 0 5 15 1015808 (by decide)) (by decide) (by decide)
  have O2 := or_step (w := T + fd rd 0 5 7 + fd a 0 5 15) (x := fd m 0 12 20) (m := 1048575) (mm := 4293918720) (k2 := 4294967295) O1.2 (fd_sub m 0 12 20 4293918720 (by decide)) (by decide) (by decide)
  rw [O0.1, O1.1, O2.1]
  try omega
theorem orP_3 (T op rd a b v : Nat) (aq rl : Bool) (hT : Sub T 28799) (ho : op ≠ 65) : T ||| packN (regP 3 rd a 0 ++ immP op 3 v aq rl) = T + (fd rd 0 5 7 + fd a 0 5 15 + fd v 0 12 20) := by
  by_cases z : rd = 0
  · have L : regP 3 rd a 0 ++ immP op 3 v aq rl = [(a, 15, 5), (v, 20, 12)] := by
      unfold regP immP
      rw [show fA 3 = true by decide, show fB 3 = false by decide, if_pos z]
      simp
    have P0 := pk_step (w := 0) (v := a) (a := 15) (n := 5) (r := [(v, 20, 12)]) (m := 0) (mm := 1015808) (k2 := 1015808) (Sub.zero 0) (by decide) (by decide) (by decide)
    have P1 := pk_step (w := 0 + fd (a) 0 5 15) (v := v) (a := 20) (n := 12) (r := []) (m := 1015808) (mm := 4293918720) (k2 := 4294934528) P0.2 (by decide) (by decide) (by decide)
    have P : packN [(a, 15, 5), (v, 20, 12)] = 0 + fd (a) 0 5 15 + fd (v) 0 12 20 := by
      unfold packN
      rw [P0.1, P1.1]
      exact List.foldl_nil
    rw [L, P, Sub.sum hT P1.2 (by decide)]
    rw [z, fd_0]
    try omega
  · have L : regP 3 rd a 0 ++ immP op 3 v aq rl = [(a, 15, 5), (rd, 7, 5), (v, 20, 12)] := by
      unfold regP immP
      rw [show fA 3 = true by decide, show fB 3 = false by decide, if_neg z]
      simp
    have P0 := pk_step (w := 0) (v := a) (a := 15) (n := 5) (r := [(rd, 7, 5), (v, 20, 12)]) (m := 0) (mm := 1015808) (k2 := 1015808) (Sub.zero 0) (by decide) (by decide) (by decide)
    have P1 := pk_step (w := 0 + fd (a) 0 5 15) (v := rd) (a := 7) (n := 5) (r := [(v, 20, 12)]) (m := 1015808) (mm := 3968) (k2 := 1019776) P0.2 (by decide) (by decide) (by decide)
    have P2 := pk_step (w := 0 + fd (a) 0 5 15 + fd (rd) 0 5 7) (v := v) (a := 20) (n := 12) (r := []) (m := 1019776) (mm := 4293918720) (k2 := 4294938496) P1.2 (by decide) (by decide) (by decide)
    have P : packN [(a, 15, 5), (rd, 7, 5), (v, 20, 12)] = 0 + fd (a) 0 5 15 + fd (rd) 0 5 7 + fd (v) 0 12 20 := by
      unfold packN
      rw [P0.1, P1.1, P2.1]
      exact List.foldl_nil
    rw [L, P, Sub.sum hT P2.2 (by decide)]
    try omega
theorem fit_3 (w op : Nat) (h1 : 1 ≤ op) (h2 : op < 88) (hf : formI op = 3) : encR 3 (encT op (uN (prd w 3)) (uN (pA w 3)) (uN (pB w 3))) (uN (immW w 3)) (pAq w 3) (pRl w 3) = wordT op + (fd w 7 5 7 + fd w 15 5 15 + fd w 20 12 20) ∧ encP op (prd w 3).toNat (pA w 3).toNat (pB w 3).toNat (uN (immW w 3) % 4294967296) (pAq w 3) (pRl w 3) = wordT op + (fd w 7 5 7 + fd w 15 5 15 + fd w 20 12 20) := by
  have hm := tabMask op h2 h1
  have hb := tabBase op h2 h1
  have ho := tabNZ op h2 h1 (by rw [hf]; decide)
  rw [hf] at hm hb
  rw [if_neg ho] at hb
  rw [show maskF 3 = 28799 by decide] at hm
  have e1 : prd w 3 = ((F w 7 5 : Nat) : Int) := by unfold prd; rw [if_pos (show fRd 3 = true by decide)]
  have e2 : pA w 3 = ((F w 15 5 : Nat) : Int) := by unfold pA; rw [if_pos (show fA 3 = true by decide)]
  have e3 : pB w 3 = 0 := by unfold pB; rw [if_neg (show ¬ fB 3 = true by decide)]
  have mW : immW w 3 = S 12 (F w 20 12 * 2 ^ 0) := by unfold immW; simp only [Int.reduceEq, if_true, if_false]
  have hi : uN (immW w 3) % 2 ^ 12 = (F w 20 12 * 2 ^ 0) % 2 ^ 12 := by rw [mW]; exact uN_S 12 _ (by decide) (by decide)
  have hj := mod32 hi (by decide)
  clear mW
  revert hi hj
  generalize uN (immW w 3) % 4294967296 = v
  generalize uN (immW w 3) = m
  intro hi hj
  have s20 : F (F w 20 12 * 2 ^ 0) 0 12 = F w 20 12 := by
    have := F_lt w 20 12
    revert this
    generalize F w 20 12 = x20
    simp only [F, Nat.reducePow]
    omega
  have i20 : fd m 0 12 20 = fd w 20 12 20 := fd_of ((F_low 0 12 hi (by decide)).trans s20) 20
  have p20 : fd v 0 12 20 = fd w 20 12 20 := fd_of ((F_low 0 12 hj (by decide)).trans s20) 20
  have a0 : pAq w 3 = false := by unfold pAq; rw [show fO 3 = false by decide, Bool.false_and]
  have r0 : pRl w 3 = false := by unfold pRl; rw [show fO 3 = false by decide, Bool.false_and]
  rw [a0, r0]
  rw [e1, e2, e3, encT_fd]
  rw [uN_F w 7 5 (by decide)]
  rw [uN_F w 15 5 (by decide)]
  rw [uN_zero]
  constructor
  · rw [encR_ff, encU_3, orR_3 (wordT op) (F w 7 5) (F w 15 5) 0 m hm]
    simp only [fd_F, i20]
  · unfold encP
    rw [hf, hb]
    simp only [Int.toNat_natCast, Int.toNat_zero]
    rw [orP_3 (wordT op) op (F w 7 5) (F w 15 5) 0 v _ _ hm ho]
    simp only [fd_F, p20]
theorem orR_4 (T rd a b m : Nat) (hT : Sub T 28799) : ((T ||| fd 0 0 5 7 ||| fd a 0 5 15 ||| fd b 0 5 20) &&& 4294963327) ||| fd m 12 1 31 ||| fd m 5 6 25 ||| fd m 1 4 8 ||| fd m 11 1 7 = T + (fd a 0 5 15 + fd b 0 5 20 + fd m 12 1 31 + fd m 5 6 25 + fd m 1 4 8 + fd m 11 1 7) := by
  simp only [fd_0, Nat.or_zero]
  have O0 := or_step (w := T) (x := fd a 0 5 15) (m := 28799) (mm := 1015808) (k2 := 1044607) hT (fd_sub a 0 5 15 1015808 (by decide)) (by decide) (by decide)
  have O1 := or_step (w := T + fd a 0 5 15) (x := fd b 0 5 20) (m := 1044607) (mm := 32505856) (k2 := 33550463) O0.2 (fd_sub b 0 5 20 32505856 (by decide)) (by decide) (by decide)
  have O2 := or_step (w := T + fd a 0 5 15 + fd b 0 5 20) (x := fd m 12 1 31) (m := 33550463) (mm := 2147483648) (k2 := 2181034111) O1.2 (fd_sub m 12 1 31 2147483648 (by decide)) (by decide) (by decide)
  have O3 := or_step (w := T + fd a 0 5 15 + fd b 0 5 20 + fd m 12 1 31) (x := fd m 5 6 25) (m := 2181034111) (mm := 2113929216) (k2 := 4294963327) O2.2 (fd_sub m 5 6 25 2113929216 (by decide)) (by decide) (by decide)
  have O4 := or_step (w := T + fd a 0 5 15 + fd b 0 5 20 + fd m 12 1 31 + fd m 5 6 25) (x := fd m 1 4 8) (m := 4294963327) (mm := 3840) (k2 := 4294967167) O3.2 (fd_sub m 1 4 8 3840 (by decide)) (by decide) (by decide)
  have O5 := or_step (w := T + fd a 0 5 15 + fd b 0 5 20 + fd m 12 1 31 + fd m 5 6 25 + fd m 1 4 8) (x := fd m 11 1 7) (m := 4294967167) (mm := 128) (k2 := 4294967295) O4.2 (fd_sub m 11 1 7 128 (by decide)) (by decide) (by decide)
  rw [O0.1, O1.1, show (T + fd a 0 5 15 + fd b 0 5 20) &&& 4294963327 = T + fd a 0 5 15 + fd b 0 5 20 from Sub.mono O1.2 (by decide), O2.1, O3.1, O4.1, O5.1]
  try omega
theorem orP_4 (T op rd a b v : Nat) (aq rl : Bool) (hT : Sub T 28799) (ho : op ≠ 65) : T ||| packN (regP 4 0 a b ++ immP op 4 v aq rl) = T + (fd a 0 5 15 + fd b 0 5 20 + fd v 12 1 31 + fd v 5 6 25 + fd v 1 4 8 + fd v 11 1 7) := by
  have L : regP 4 0 a b ++ immP op 4 v aq rl = [(a, 15, 5), (b, 20, 5), (v / 4096, 31, 1), (v / 32, 25, 6), (v / 2, 8, 4), (v / 2048, 7, 1)] := by
    unfold regP immP
    rw [show fA 4 = true by decide, show fB 4 = true by decide]
    simp
  have P0 := pk_step (w := 0) (v := a) (a := 15) (n := 5) (r := [(b, 20, 5), (v / 4096, 31, 1), (v / 32, 25, 6), (v / 2, 8, 4), (v / 2048, 7, 1)]) (m := 0) (mm := 1015808) (k2 := 1015808) (Sub.zero 0) (by decide) (by decide) (by decide)
  have P1 := pk_step (w := 0 + fd (a) 0 5 15) (v := b) (a := 20) (n := 5) (r := [(v / 4096, 31, 1), (v / 32, 25, 6), (v / 2, 8, 4), (v / 2048, 7, 1)]) (m := 1015808) (mm := 32505856) (k2 := 33521664) P0.2 (by decide) (by decide) (by decide)
  have P2 := pk_step (w := 0 + fd (a) 0 5 15 + fd (b) 0 5 20) (v := v / 4096) (a := 31) (n := 1) (r := [(v / 32, 25, 6), (v / 2, 8, 4), (v / 2048, 7, 1)]) (m := 33521664) (mm := 2147483648) (k2 := 2181005312) P1.2 (by decide) (by decide) (by decide)
  have P3 := pk_step (w := 0 + fd (a) 0 5 15 + fd (b) 0 5 20 + fd (v / 4096) 0 1 31) (v := v / 32) (a := 25) (n := 6) (r := [(v / 2, 8, 4), (v / 2048, 7, 1)]) (m := 2181005312) (mm := 2113929216) (k2 := 4294934528) P2.2 (by decide) (by decide) (by decide)
  have P4 := pk_step (w := 0 + fd (a) 0 5 15 + fd (b) 0 5 20 + fd (v / 4096) 0 1 31 + fd (v / 32) 0 6 25) (v := v / 2) (a := 8) (n := 4) (r := [(v / 2048, 7, 1)]) (m := 4294934528) (mm := 3840) (k2 := 4294938368) P3.2 (by decide) (by decide) (by decide)
  have P5 := pk_step (w := 0 + fd (a) 0 5 15 + fd (b) 0 5 20 + fd (v / 4096) 0 1 31 + fd (v / 32) 0 6 25 + fd (v / 2) 0 4 8) (v := v / 2048) (a := 7) (n := 1) (r := []) (m := 4294938368) (mm := 128) (k2 := 4294938496) P4.2 (by decide) (by decide) (by decide)
  have P : packN [(a, 15, 5), (b, 20, 5), (v / 4096, 31, 1), (v / 32, 25, 6), (v / 2, 8, 4), (v / 2048, 7, 1)] = 0 + fd (a) 0 5 15 + fd (b) 0 5 20 + fd (v / 4096) 0 1 31 + fd (v / 32) 0 6 25 + fd (v / 2) 0 4 8 + fd (v / 2048) 0 1 7 := by
    unfold packN
    rw [P0.1, P1.1, P2.1, P3.1, P4.1, P5.1]
    exact List.foldl_nil
  rw [L, P, Sub.sum hT P5.2 (by decide)]
  rw [fd_dv v 12 1 31 4096 (by decide)]
  rw [fd_dv v 5 6 25 32 (by decide)]
  rw [fd_dv v 1 4 8 2 (by decide)]
  rw [fd_dv v 11 1 7 2048 (by decide)]
  try omega
theorem fit_4 (w op : Nat) (h1 : 1 ≤ op) (h2 : op < 88) (hf : formI op = 4) : encR 4 (encT op (uN (prd w 4)) (uN (pA w 4)) (uN (pB w 4))) (uN (immW w 4)) (pAq w 4) (pRl w 4) = wordT op + (fd w 15 5 15 + fd w 20 5 20 + fd w 31 1 31 + fd w 25 6 25 + fd w 8 4 8 + fd w 7 1 7) ∧ encP op (prd w 4).toNat (pA w 4).toNat (pB w 4).toNat (uN (immW w 4) % 4294967296) (pAq w 4) (pRl w 4) = wordT op + (fd w 15 5 15 + fd w 20 5 20 + fd w 31 1 31 + fd w 25 6 25 + fd w 8 4 8 + fd w 7 1 7) := by
  have hm := tabMask op h2 h1
  have hb := tabBase op h2 h1
  have ho := tabNZ op h2 h1 (by rw [hf]; decide)
  rw [hf] at hm hb
  rw [if_neg ho] at hb
  rw [show maskF 4 = 28799 by decide] at hm
  have e1 : prd w 4 = 0 := by unfold prd; rw [if_neg (show ¬ fRd 4 = true by decide)]
  have e2 : pA w 4 = ((F w 15 5 : Nat) : Int) := by unfold pA; rw [if_pos (show fA 4 = true by decide)]
  have e3 : pB w 4 = ((F w 20 5 : Nat) : Int) := by unfold pB; rw [if_pos (show fB 4 = true by decide)]
  have mW : immW w 4 = S 13 (bB w) := by unfold immW; simp only [Int.reduceEq, if_true, if_false]
  have hi : uN (immW w 4) % 2 ^ 13 = (bB w) % 2 ^ 13 := by rw [mW]; exact uN_S 13 _ (by decide) (by decide)
  have hj := mod32 hi (by decide)
  clear mW
  revert hi hj
  generalize uN (immW w 4) % 4294967296 = v
  generalize uN (immW w 4) = m
  intro hi hj
  have s31 : F (bB w) 12 1 = F w 31 1 := by
    unfold bB
    have := F_lt w 31 1
    revert this
    generalize F w 31 1 = x31
    have := F_lt w 25 6
    revert this
    generalize F w 25 6 = x25
    have := F_lt w 8 4
    revert this
    generalize F w 8 4 = x8
    have := F_lt w 7 1
    revert this
    generalize F w 7 1 = x7
    simp only [F, Nat.reducePow]
    omega
  have i31 : fd m 12 1 31 = fd w 31 1 31 := fd_of ((F_low 12 1 hi (by decide)).trans s31) 31
  have p31 : fd v 12 1 31 = fd w 31 1 31 := fd_of ((F_low 12 1 hj (by decide)).trans s31) 31
  have s25 : F (bB w) 5 6 = F w 25 6 := by
    unfold bB
    have := F_lt w 31 1
    revert this
    generalize F w 31 1 = x31
    have := F_lt w 25 6
    revert this
    generalize F w 25 6 = x25
    have := F_lt w 8 4
    revert this
    generalize F w 8 4 = x8
    have := F_lt w 7 1
    revert this
    generalize F w 7 1 = x7
    simp only [F, Nat.reducePow]
    omega
  have i25 : fd m 5 6 25 = fd w 25 6 25 := fd_of ((F_low 5 6 hi (by decide)).trans s25) 25
  have p25 : fd v 5 6 25 = fd w 25 6 25 := fd_of ((F_low 5 6 hj (by decide)).trans s25) 25
  have s8 : F (bB w) 1 4 = F w 8 4 := by
    unfold bB
    have := F_lt w 31 1
    revert this
    generalize F w 31 1 = x31
    have := F_lt w 25 6
    revert this
    generalize F w 25 6 = x25
    have := F_lt w 8 4
    revert this
    generalize F w 8 4 = x8
    have := F_lt w 7 1
    revert this
    generalize F w 7 1 = x7
    simp only [F, Nat.reducePow]
    omega
  have i8 : fd m 1 4 8 = fd w 8 4 8 := fd_of ((F_low 1 4 hi (by decide)).trans s8) 8
  have p8 : fd v 1 4 8 = fd w 8 4 8 := fd_of ((F_low 1 4 hj (by decide)).trans s8) 8
  have s7 : F (bB w) 11 1 = F w 7 1 := by
    unfold bB
    have := F_lt w 31 1
    revert this
    generalize F w 31 1 = x31
    have := F_lt w 25 6
    revert this
    generalize F w 25 6 = x25
    have := F_lt w 8 4
    revert this
    generalize F w 8 4 = x8
    have := F_lt w 7 1
    revert this
    generalize F w 7 1 = x7
    simp only [F, Nat.reducePow]
    omega
  have i7 : fd m 11 1 7 = fd w 7 1 7 := fd_of ((F_low 11 1 hi (by decide)).trans s7) 7
  have p7 : fd v 11 1 7 = fd w 7 1 7 := fd_of ((F_low 11 1 hj (by decide)).trans s7) 7
  have a0 : pAq w 4 = false := by unfold pAq; rw [show fO 4 = false by decide, Bool.false_and]
  have r0 : pRl w 4 = false := by unfold pRl; rw [show fO 4 = false by decide, Bool.false_and]
  rw [a0, r0]
  rw [e1, e2, e3, encT_fd]
  rw [uN_zero]
  rw [uN_F w 15 5 (by decide)]
  rw [uN_F w 20 5 (by decide)]
  constructor
  · rw [encR_ff, encU_4, orR_4 (wordT op) 0 (F w 15 5) (F w 20 5) m hm]
    simp only [fd_F, i31, i25, i8, i7]
  · unfold encP
    rw [hf, hb]
    simp only [Int.toNat_natCast, Int.toNat_zero]
    rw [orP_4 (wordT op) op 0 (F w 15 5) (F w 20 5) v _ _ hm ho]
    simp only [fd_F, p31, p25, p8, p7]
theorem orR_5 (T rd a b m : Nat) (hT : Sub T 28799) : ((T ||| fd 0 0 5 7 ||| fd a 0 5 15 ||| fd b 0 5 20) &&& 4294963327) ||| fd m 5 7 25 ||| fd m 0 5 7 = T + (fd a 0 5 15 + fd b 0 5 20 + fd m 5 7 25 + fd m 0 5 7) := by
  simp only [fd_0, Nat.or_zero]
  have O0 := or_step (w := T) (x := fd a 0 5 15) (m := 28799) (mm := 1015808) (k2 := 1044607) hT (fd_sub a 0 5 15 1015808 (by decide)) (by decide) (by decide)
  have O1 := or_step (w := T + fd a 0 5 15) (x := fd b 0 5 20) (m := 1044607) (mm := 32505856) (k2 := 33550463) O0.2 (fd_sub b 0 5 20 32505856 (by decide)) (by decide) (by decide)
  have O2 := or_step (w := T + fd a 0 5 15 + fd b 0 5 20) (x := fd m 5 7 25) (m := 33550463) (mm := 4261412864) (k2 := 4294963327) O1.2 (fd_sub m 5 7 25 4261412864 (by decide)) (by decide) (by decide)
  have O3 := or_step (w := T + fd a 0 5 15 + fd b 0 5 20 + fd m 5 7 25) (x := fd m 0 5 7) (m := 4294963327) (mm := 3968) (k2 := 4294967295) O2.2 (fd_sub m 0 5 7 3968 (by decide)) (by decide) (by decide)
  rw [O0.1, O1.1, show (T + fd a 0 5 15 + fd b 0 5 20) &&& 4294963327 = T + fd a 0 5 15 + fd b 0 5 20 from Sub.mono O1.2 (by decide), O2.1, O3.1]
  try omega
theorem orP_5 (T op rd a b v : Nat) (aq rl : Bool) (hT : Sub T 28799) (ho : op ≠ 65) : T ||| packN (regP 5 0 a b ++ immP op 5 v aq rl) = T + (fd a 0 5 15 + fd b 0 5 20 + fd v 5 7 25 + fd v 0 5 7) := by
  have L : regP 5 0 a b ++ immP op 5 v aq rl = [(a, 15, 5), (b, 20, 5), (v / 32, 25, 7), (v, 7, 5)] := by
    unfold regP immP
    rw [show fA 5 = true by decide, show fB 5 = true by decide]
    simp
  have P0 := pk_step (w := 0) (v := a) (a := 15) (n := 5) (r := [(b, 20, 5), (v / 32, 25, 7), (v, 7, 5)]) (m := 0) (mm := 1015808) (k2 := 1015808) (Sub.zero 0) (by decide) (by decide) (by decide)
  have P1 := pk_step (w := 0 + fd (a) 0 5 15) (v := b) (a := 20) (n := 5) (r := [(v / 32, 25, 7), (v, 7, 5)]) (m := 1015808) (mm := 32505856) (k2 := 33521664) P0.2 (by decide) (by decide) (by decide)
  have P2 := pk_step (w := 0 + fd (a) 0 5 15 + fd (b) 0 5 20) (v := v / 32) (a := 25) (n := 7) (r := [(v, 7, 5)]) (m := 33521664) (mm := 4261412864) (k2 := 4294934528) P1.2 (by decide) (by decide) (by decide)
  have P3 := pk_step (w := 0 + fd (a) 0 5 15 + fd (b) 0 5 20 + fd (v / 32) 0 7 25) (v := v) (a := 7) (n := 5) (r := []) (m := 4294934528) (mm := 3968) (k2 := 4294938496) P2.2 (by decide) (by decide) (by decide)
  have P : packN [(a, 15, 5), (b, 20, 5), (v / 32, 25, 7), (v, 7, 5)] = 0 + fd (a) 0 5 15 + fd (b) 0 5 20 + fd (v / 32) 0 7 25 + fd (v) 0 5 7 := by
    unfold packN
    rw [P0.1, P1.1, P2.1, P3.1]
    exact List.foldl_nil
  rw [L, P, Sub.sum hT P3.2 (by decide)]
  rw [fd_dv v 5 7 25 32 (by decide)]
  try omega
theorem fit_5 (w op : Nat) (h1 : 1 ≤ op) (h2 : op < 88) (hf : formI op = 5) : encR 5 (encT op (uN (prd w 5)) (uN (pA w 5)) (uN (pB w 5))) (uN (immW w 5)) (pAq w 5) (pRl w 5) = wordT op + (fd w 15 5 15 + fd w 20 5 20 + fd w 25 7 25 + fd w 7 5 7) ∧ encP op (prd w 5).toNat (pA w 5).toNat (pB w 5).toNat (uN (immW w 5) % 4294967296) (pAq w 5) (pRl w 5) = wordT op + (fd w 15 5 15 + fd w 20 5 20 + fd w 25 7 25 + fd w 7 5 7) := by
  have hm := tabMask op h2 h1
  have hb := tabBase op h2 h1
  have ho := tabNZ op h2 h1 (by rw [hf]; decide)
  rw [hf] at hm hb
  rw [if_neg ho] at hb
  rw [show maskF 5 = 28799 by decide] at hm
  have e1 : prd w 5 = 0 := by unfold prd; rw [if_neg (show ¬ fRd 5 = true by decide)]
  have e2 : pA w 5 = ((F w 15 5 : Nat) : Int) := by unfold pA; rw [if_pos (show fA 5 = true by decide)]
  have e3 : pB w 5 = ((F w 20 5 : Nat) : Int) := by unfold pB; rw [if_pos (show fB 5 = true by decide)]
  have mW : immW w 5 = S 12 (bS w) := by unfold immW; simp only [Int.reduceEq, if_true, if_false]
  have hi : uN (immW w 5) % 2 ^ 12 = (bS w) % 2 ^ 12 := by rw [mW]; exact uN_S 12 _ (by decide) (by decide)
  have hj := mod32 hi (by decide)
  clear mW
  revert hi hj
  generalize uN (immW w 5) % 4294967296 = v
  generalize uN (immW w 5) = m
  intro hi hj
  have s25 : F (bS w) 5 7 = F w 25 7 := by
    unfold bS
    have := F_lt w 25 7
    revert this
    generalize F w 25 7 = x25
    have := F_lt w 7 5
    revert this
    generalize F w 7 5 = x7
    simp only [F, Nat.reducePow]
    omega
  have i25 : fd m 5 7 25 = fd w 25 7 25 := fd_of ((F_low 5 7 hi (by decide)).trans s25) 25
  have p25 : fd v 5 7 25 = fd w 25 7 25 := fd_of ((F_low 5 7 hj (by decide)).trans s25) 25
  have s7 : F (bS w) 0 5 = F w 7 5 := by
    unfold bS
    have := F_lt w 25 7
    revert this
    generalize F w 25 7 = x25
    have := F_lt w 7 5
    revert this
    generalize F w 7 5 = x7
    simp only [F, Nat.reducePow]
    omega
  have i7 : fd m 0 5 7 = fd w 7 5 7 := fd_of ((F_low 0 5 hi (by decide)).trans s7) 7
  have p7 : fd v 0 5 7 = fd w 7 5 7 := fd_of ((F_low 0 5 hj (by decide)).trans s7) 7
  have a0 : pAq w 5 = false := by unfold pAq; rw [show fO 5 = false by decide, Bool.false_and]
  have r0 : pRl w 5 = false := by unfold pRl; rw [show fO 5 = false by decide, Bool.false_and]
  rw [a0, r0]
  rw [e1, e2, e3, encT_fd]
  rw [uN_zero]
  rw [uN_F w 15 5 (by decide)]
  rw [uN_F w 20 5 (by decide)]
  constructor
  · rw [encR_ff, encU_5, orR_5 (wordT op) 0 (F w 15 5) (F w 20 5) m hm]
    simp only [fd_F, i25, i7]
  · unfold encP
    rw [hf, hb]
    simp only [Int.toNat_natCast, Int.toNat_zero]
    rw [orP_5 (wordT op) op 0 (F w 15 5) (F w 20 5) v _ _ hm ho]
    simp only [fd_F, p25, p7]
theorem orR_6 (T rd a b m : Nat) (hT : Sub T 4261441663) : (T ||| fd rd 0 5 7 ||| fd a 0 5 15 ||| fd b 0 5 20) = T + (fd rd 0 5 7 + fd a 0 5 15 + fd b 0 5 20) := by
  have O0 := or_step (w := T) (x := fd rd 0 5 7) (m := 4261441663) (mm := 3968) (k2 := 4261445631) hT (fd_sub rd 0 5 7 3968 (by decide)) (by decide) (by decide)
  have O1 := or_step (w := T + fd rd 0 5 7) (x := fd a 0 5 15) (m := 4261445631) (mm := 1015808) (k2 := 4262461439) O0.2 (fd_sub a 0 5 15 1015808 (by decide)) (by decide) (by decide)
  have O2 := or_step (w := T + fd rd 0 5 7 + fd a 0 5 15) (x := fd b 0 5 20) (m := 4262461439) (mm := 32505856) (k2 := 4294967295) O1.2 (fd_sub b 0 5 20 32505856 (by decide)) (by decide) (by decide)
  rw [O0.1, O1.1, O2.1]
  try omega
theorem orP_6 (T op rd a b v : Nat) (aq rl : Bool) (hT : Sub T 4261441663) (ho : op ≠ 65) : T ||| packN (regP 6 rd a b ++ immP op 6 v aq rl) = T + (fd rd 0 5 7 + fd a 0 5 15 + fd b 0 5 20) := by
  by_cases z : rd = 0
  · have L : regP 6 rd a b ++ immP op 6 v aq rl = [(a, 15, 5), (b, 20, 5)] := by
      unfold regP immP
      rw [show fA 6 = true by decide, show fB 6 = true by decide, if_pos z]
      simp [show ¬ ((op : Int) = 65) by omega]
    have P0 := pk_step (w := 0) (v := a) (a := 15) (n := 5) (r := [(b, 20, 5)]) (m := 0) (mm := 1015808) (k2 := 1015808) (Sub.zero 0) (by decide) (by decide) (by decide)
    have P1 := pk_step (w := 0 + fd (a) 0 5 15) (v := b) (a := 20) (n := 5) (r := []) (m := 1015808) (mm := 32505856) (k2 := 33521664) P0.2 (by decide) (by decide) (by decide)
    have P : packN [(a, 15, 5), (b, 20, 5)] = 0 + fd (a) 0 5 15 + fd (b) 0 5 20 := by
      unfold packN
      rw [P0.1, P1.1]
      exact List.foldl_nil
    rw [L, P, Sub.sum hT P1.2 (by decide)]
    rw [z, fd_0]
    try omega
  · have L : regP 6 rd a b ++ immP op 6 v aq rl = [(a, 15, 5), (b, 20, 5), (rd, 7, 5)] := by
      unfold regP immP
      rw [show fA 6 = true by decide, show fB 6 = true by decide, if_neg z]
      simp [show ¬ ((op : Int) = 65) by omega]
    have P0 := pk_step (w := 0) (v := a) (a := 15) (n := 5) (r := [(b, 20, 5), (rd, 7, 5)]) (m := 0) (mm := 1015808) (k2 := 1015808) (Sub.zero 0) (by decide) (by decide) (by decide)
    have P1 := pk_step (w := 0 + fd (a) 0 5 15) (v := b) (a := 20) (n := 5) (r := [(rd, 7, 5)]) (m := 1015808) (mm := 32505856) (k2 := 33521664) P0.2 (by decide) (by decide) (by decide)
    have P2 := pk_step (w := 0 + fd (a) 0 5 15 + fd (b) 0 5 20) (v := rd) (a := 7) (n := 5) (r := []) (m := 33521664) (mm := 3968) (k2 := 33525632) P1.2 (by decide) (by decide) (by decide)
    have P : packN [(a, 15, 5), (b, 20, 5), (rd, 7, 5)] = 0 + fd (a) 0 5 15 + fd (b) 0 5 20 + fd (rd) 0 5 7 := by
      unfold packN
      rw [P0.1, P1.1, P2.1]
      exact List.foldl_nil
    rw [L, P, Sub.sum hT P2.2 (by decide)]
    try omega
theorem fit_6 (w op : Nat) (h1 : 1 ≤ op) (h2 : op < 88) (hf : formI op = 6) : encR 6 (encT op (uN (prd w 6)) (uN (pA w 6)) (uN (pB w 6))) (uN (immW w 6)) (pAq w 6) (pRl w 6) = wordT op + (fd w 7 5 7 + fd w 15 5 15 + fd w 20 5 20) ∧ encP op (prd w 6).toNat (pA w 6).toNat (pB w 6).toNat (uN (immW w 6) % 4294967296) (pAq w 6) (pRl w 6) = wordT op + (fd w 7 5 7 + fd w 15 5 15 + fd w 20 5 20) := by
  have hm := tabMask op h2 h1
  have hb := tabBase op h2 h1
  have ho := tabNZ op h2 h1 (by rw [hf]; decide)
  rw [hf] at hm hb
  rw [if_neg ho] at hb
  rw [show maskF 6 = 4261441663 by decide] at hm
  have e1 : prd w 6 = ((F w 7 5 : Nat) : Int) := by unfold prd; rw [if_pos (show fRd 6 = true by decide)]
  have e2 : pA w 6 = ((F w 15 5 : Nat) : Int) := by unfold pA; rw [if_pos (show fA 6 = true by decide)]
  have e3 : pB w 6 = ((F w 20 5 : Nat) : Int) := by unfold pB; rw [if_pos (show fB 6 = true by decide)]
  generalize uN (immW w 6) % 4294967296 = v
  generalize uN (immW w 6) = m
  have a0 : pAq w 6 = false := by unfold pAq; rw [show fO 6 = false by decide, Bool.false_and]
  have r0 : pRl w 6 = false := by unfold pRl; rw [show fO 6 = false by decide, Bool.false_and]
  rw [a0, r0]
  rw [e1, e2, e3, encT_fd]
  rw [uN_F w 7 5 (by decide)]
  rw [uN_F w 15 5 (by decide)]
  rw [uN_F w 20 5 (by decide)]
  constructor
  · rw [encR_ff, encU_6, orR_6 (wordT op) (F w 7 5) (F w 15 5) (F w 20 5) m hm]
    simp only [fd_F]
  · unfold encP
    rw [hf, hb]
    simp only [Int.toNat_natCast, Int.toNat_zero]
    rw [orP_6 (wordT op) op (F w 7 5) (F w 15 5) (F w 20 5) v _ _ hm ho]
    simp only [fd_F]
theorem orR_7 (T rd a b m : Nat) (hT : Sub T 4227887231) : (T ||| fd rd 0 5 7 ||| fd a 0 5 15 ||| fd 0 0 5 20) ||| fd m 0 6 20 = T + (fd rd 0 5 7 + fd a 0 5 15 + fd m 0 6 20) := by
  simp only [fd_0, Nat.or_zero]
  have O0 := or_step (w := T) (x := fd rd 0 5 7) (m := 4227887231) (mm := 3968) (k2 := 4227891199) hT (fd_sub rd 0 5 7 3968 (by decide)) (by decide) (by decide)
  have O1 := or_step (w := T + fd rd 0 5 7) (x := fd a 0 5 15) (m := 4227891199) (mm := 1015808) (k2 := 4228907007) O0.2 (fd_sub a 0 5 15 1015808 (by decide)) (by decide) (by decide)
  have O2 := or_step (w := T + fd rd 0 5 7 + fd a 0 5 15) (x := fd m 0 6 20) (m := 4228907007) (mm := 66060288) (k2 := 4294967295) O1.2 (fd_sub m 0 6 20 66060288 (by decide)) (by decide) (by decide)
  rw [O0.1, O1.1, O2.1]
  try omega
theorem orP_7 (T op rd a b v : Nat) (aq rl : Bool) (hT : Sub T 4227887231) (ho : op ≠ 65) : T ||| packN (regP 7 rd a 0 ++ immP op 7 v aq rl) = T + (fd rd 0 5 7 + fd a 0 5 15 + fd v 0 6 20) := by
  by_cases z : rd = 0
  · have L : regP 7 rd a 0 ++ immP op 7 v aq rl = [(a, 15, 5), (v, 20, 6)] := by
      unfold regP immP
      rw [show fA 7 = true by decide, show fB 7 = false by decide, if_pos z]
      simp
    have P0 := pk_step (w := 0) (v := a) (a := 15) (n := 5) (r := [(v, 20, 6)]) (m := 0) (mm := 1015808) (k2 := 1015808) (Sub.zero 0) (by decide) (by decide) (by decide)
    have P1 := pk_step (w := 0 + fd (a) 0 5 15) (v := v) (a := 20) (n := 6) (r := []) (m := 1015808) (mm := 66060288) (k2 := 67076096) P0.2 (by decide) (by decide) (by decide)
    have P : packN [(a, 15, 5), (v, 20, 6)] = 0 + fd (a) 0 5 15 + fd (v) 0 6 20 := by
      unfold packN
      rw [P0.1, P1.1]
      exact List.foldl_nil
    rw [L, P, Sub.sum hT P1.2 (by decide)]
    rw [z, fd_0]
    try omega
  · have L : regP 7 rd a 0 ++ immP op 7 v aq rl = [(a, 15, 5), (rd, 7, 5), (v, 20, 6)] := by
      unfold regP immP
      rw [show fA 7 = true by decide, show fB 7 = false by decide, if_neg z]
      simp
    have P0 := pk_step (w := 0) (v := a) (a := 15) (n := 5) (r := [(rd, 7, 5), (v, 20, 6)]) (m := 0) (mm := 1015808) (k2 := 1015808) (Sub.zero 0) (by decide) (by decide) (by decide)
    have P1 := pk_step (w := 0 + fd (a) 0 5 15) (v := rd) (a := 7) (n := 5) (r := [(v, 20, 6)]) (m := 1015808) (mm := 3968) (k2 := 1019776) P0.2 (by decide) (by decide) (by decide)
    have P2 := pk_step (w := 0 + fd (a) 0 5 15 + fd (rd) 0 5 7) (v := v) (a := 20) (n := 6) (r := []) (m := 1019776) (mm := 66060288) (k2 := 67080064) P1.2 (by decide) (by decide) (by decide)
    have P : packN [(a, 15, 5), (rd, 7, 5), (v, 20, 6)] = 0 + fd (a) 0 5 15 + fd (rd) 0 5 7 + fd (v) 0 6 20 := by
      unfold packN
      rw [P0.1, P1.1, P2.1]
      exact List.foldl_nil
    rw [L, P, Sub.sum hT P2.2 (by decide)]
    try omega
theorem fit_7 (w op : Nat) (h1 : 1 ≤ op) (h2 : op < 88) (hf : formI op = 7) : encR 7 (encT op (uN (prd w 7)) (uN (pA w 7)) (uN (pB w 7))) (uN (immW w 7)) (pAq w 7) (pRl w 7) = wordT op + (fd w 7 5 7 + fd w 15 5 15 + fd w 20 6 20) ∧ encP op (prd w 7).toNat (pA w 7).toNat (pB w 7).toNat (uN (immW w 7) % 4294967296) (pAq w 7) (pRl w 7) = wordT op + (fd w 7 5 7 + fd w 15 5 15 + fd w 20 6 20) := by
  have hm := tabMask op h2 h1
  have hb := tabBase op h2 h1
  have ho := tabNZ op h2 h1 (by rw [hf]; decide)
  rw [hf] at hm hb
  rw [if_neg ho] at hb
  rw [show maskF 7 = 4227887231 by decide] at hm
  have e1 : prd w 7 = ((F w 7 5 : Nat) : Int) := by unfold prd; rw [if_pos (show fRd 7 = true by decide)]
  have e2 : pA w 7 = ((F w 15 5 : Nat) : Int) := by unfold pA; rw [if_pos (show fA 7 = true by decide)]
  have e3 : pB w 7 = 0 := by unfold pB; rw [if_neg (show ¬ fB 7 = true by decide)]
  have mW : immW w 7 = ((F w 20 6 * 2 ^ 0 : Nat) : Int) := by unfold immW; simp only [Int.reduceEq, if_true, if_false]
  have hi : uN (immW w 7) % 2 ^ 6 = (F w 20 6 * 2 ^ 0) % 2 ^ 6 := by rw [mW, uN_F0 w _ _ (by decide), Nat.pow_zero, Nat.mul_one]
  have hj := mod32 hi (by decide)
  clear mW
  revert hi hj
  generalize uN (immW w 7) % 4294967296 = v
  generalize uN (immW w 7) = m
  intro hi hj
  have s20 : F (F w 20 6 * 2 ^ 0) 0 6 = F w 20 6 := by
    have := F_lt w 20 6
    revert this
    generalize F w 20 6 = x20
    simp only [F, Nat.reducePow]
    omega
  have i20 : fd m 0 6 20 = fd w 20 6 20 := fd_of ((F_low 0 6 hi (by decide)).trans s20) 20
  have p20 : fd v 0 6 20 = fd w 20 6 20 := fd_of ((F_low 0 6 hj (by decide)).trans s20) 20
  have a0 : pAq w 7 = false := by unfold pAq; rw [show fO 7 = false by decide, Bool.false_and]
  have r0 : pRl w 7 = false := by unfold pRl; rw [show fO 7 = false by decide, Bool.false_and]
  rw [a0, r0]
  rw [e1, e2, e3, encT_fd]
  rw [uN_F w 7 5 (by decide)]
  rw [uN_F w 15 5 (by decide)]
  rw [uN_zero]
  constructor
  · rw [encR_ff, encU_7, orR_7 (wordT op) (F w 7 5) (F w 15 5) 0 m hm]
    simp only [fd_F, i20]
  · unfold encP
    rw [hf, hb]
    simp only [Int.toNat_natCast, Int.toNat_zero]
    rw [orP_7 (wordT op) op (F w 7 5) (F w 15 5) 0 v _ _ hm ho]
    simp only [fd_F, p20]
theorem orR_8 (T rd a b m : Nat) (hT : Sub T 4261441663) : (T ||| fd rd 0 5 7 ||| fd a 0 5 15 ||| fd 0 0 5 20) ||| fd m 0 5 20 = T + (fd rd 0 5 7 + fd a 0 5 15 + fd m 0 5 20) := by
  simp only [fd_0, Nat.or_zero]
  have O0 := or_step (w := T) (x := fd rd 0 5 7) (m := 4261441663) (mm := 3968) (k2 := 4261445631) hT (fd_sub rd 0 5 7 3968 (by decide)) (by decide) (by decide)
  have O1 := or_step (w := T + fd rd 0 5 7) (x := fd a 0 5 15) (m := 4261445631) (mm := 1015808) (k2 := 4262461439) O0.2 (fd_sub a 0 5 15 1015808 (by decide)) (by decide) (by decide)
  have O2 := or_step (w := T + fd rd 0 5 7 + fd a 0 5 15) (x := fd m 0 5 20) (m := 4262461439) (mm := 32505856) (k2 := 4294967295) O1.2 (fd_sub m 0 5 20 32505856 (by decide)) (by decide) (by decide)
  rw [O0.1, O1.1, O2.1]
  try omega
theorem orP_8 (T op rd a b v : Nat) (aq rl : Bool) (hT : Sub T 4261441663) (ho : op ≠ 65) : T ||| packN (regP 8 rd a 0 ++ immP op 8 v aq rl) = T + (fd rd 0 5 7 + fd a 0 5 15 + fd v 0 5 20) := by
  by_cases z : rd = 0
  · have L : regP 8 rd a 0 ++ immP op 8 v aq rl = [(a, 15, 5), (v, 20, 5)] := by
      unfold regP immP
      rw [show fA 8 = true by decide, show fB 8 = false by decide, if_pos z]
      simp
    have P0 := pk_step (w := 0) (v := a) (a := 15) (n := 5) (r := [(v, 20, 5)]) (m := 0) (mm := 1015808) (k2 := 1015808) (Sub.zero 0) (by decide) (by decide) (by decide)
    have P1 := pk_step (w := 0 + fd (a) 0 5 15) (v := v) (a := 20) (n := 5) (r := []) (m := 1015808) (mm := 32505856) (k2 := 33521664) P0.2 (by decide) (by decide) (by decide)
    have P : packN [(a, 15, 5), (v, 20, 5)] = 0 + fd (a) 0 5 15 + fd (v) 0 5 20 := by
      unfold packN
      rw [P0.1, P1.1]
      exact List.foldl_nil
    rw [L, P, Sub.sum hT P1.2 (by decide)]
    rw [z, fd_0]
    try omega
  · have L : regP 8 rd a 0 ++ immP op 8 v aq rl = [(a, 15, 5), (rd, 7, 5), (v, 20, 5)] := by
      unfold regP immP
      rw [show fA 8 = true by decide, show fB 8 = false by decide, if_neg z]
      simp
    have P0 := pk_step (w := 0) (v := a) (a := 15) (n := 5) (r := [(rd, 7, 5), (v, 20, 5)]) (m := 0) (mm := 1015808) (k2 := 1015808) (Sub.zero 0) (by decide) (by decide) (by decide)
    have P1 := pk_step (w := 0 + fd (a) 0 5 15) (v := rd) (a := 7) (n := 5) (r := [(v, 20, 5)]) (m := 1015808) (mm := 3968) (k2 := 1019776) P0.2 (by decide) (by decide) (by decide)
    have P2 := pk_step (w := 0 + fd (a) 0 5 15 + fd (rd) 0 5 7) (v := v) (a := 20) (n := 5) (r := []) (m := 1019776) (mm := 32505856) (k2 := 33525632) P1.2 (by decide) (by decide) (by decide)
    have P : packN [(a, 15, 5), (rd, 7, 5), (v, 20, 5)] = 0 + fd (a) 0 5 15 + fd (rd) 0 5 7 + fd (v) 0 5 20 := by
      unfold packN
      rw [P0.1, P1.1, P2.1]
      exact List.foldl_nil
    rw [L, P, Sub.sum hT P2.2 (by decide)]
    try omega
theorem fit_8 (w op : Nat) (h1 : 1 ≤ op) (h2 : op < 88) (hf : formI op = 8) : encR 8 (encT op (uN (prd w 8)) (uN (pA w 8)) (uN (pB w 8))) (uN (immW w 8)) (pAq w 8) (pRl w 8) = wordT op + (fd w 7 5 7 + fd w 15 5 15 + fd w 20 5 20) ∧ encP op (prd w 8).toNat (pA w 8).toNat (pB w 8).toNat (uN (immW w 8) % 4294967296) (pAq w 8) (pRl w 8) = wordT op + (fd w 7 5 7 + fd w 15 5 15 + fd w 20 5 20) := by
  have hm := tabMask op h2 h1
  have hb := tabBase op h2 h1
  have ho := tabNZ op h2 h1 (by rw [hf]; decide)
  rw [hf] at hm hb
  rw [if_neg ho] at hb
  rw [show maskF 8 = 4261441663 by decide] at hm
  have e1 : prd w 8 = ((F w 7 5 : Nat) : Int) := by unfold prd; rw [if_pos (show fRd 8 = true by decide)]
  have e2 : pA w 8 = ((F w 15 5 : Nat) : Int) := by unfold pA; rw [if_pos (show fA 8 = true by decide)]
  have e3 : pB w 8 = 0 := by unfold pB; rw [if_neg (show ¬ fB 8 = true by decide)]
  have mW : immW w 8 = ((F w 20 5 * 2 ^ 0 : Nat) : Int) := by unfold immW; simp only [Int.reduceEq, if_true, if_false]
  have hi : uN (immW w 8) % 2 ^ 5 = (F w 20 5 * 2 ^ 0) % 2 ^ 5 := by rw [mW, uN_F0 w _ _ (by decide), Nat.pow_zero, Nat.mul_one]
  have hj := mod32 hi (by decide)
  clear mW
  revert hi hj
  generalize uN (immW w 8) % 4294967296 = v
  generalize uN (immW w 8) = m
  intro hi hj
  have s20 : F (F w 20 5 * 2 ^ 0) 0 5 = F w 20 5 := by
    have := F_lt w 20 5
    revert this
    generalize F w 20 5 = x20
    simp only [F, Nat.reducePow]
    omega
  have i20 : fd m 0 5 20 = fd w 20 5 20 := fd_of ((F_low 0 5 hi (by decide)).trans s20) 20
  have p20 : fd v 0 5 20 = fd w 20 5 20 := fd_of ((F_low 0 5 hj (by decide)).trans s20) 20
  have a0 : pAq w 8 = false := by unfold pAq; rw [show fO 8 = false by decide, Bool.false_and]
  have r0 : pRl w 8 = false := by unfold pRl; rw [show fO 8 = false by decide, Bool.false_and]
  rw [a0, r0]
  rw [e1, e2, e3, encT_fd]
  rw [uN_F w 7 5 (by decide)]
  rw [uN_F w 15 5 (by decide)]
  rw [uN_zero]
  constructor
  · rw [encR_ff, encU_8, orR_8 (wordT op) (F w 7 5) (F w 15 5) 0 m hm]
    simp only [fd_F, i20]
  · unfold encP
    rw [hf, hb]
    simp only [Int.toNat_natCast, Int.toNat_zero]
    rw [orP_8 (wordT op) op (F w 7 5) (F w 15 5) 0 v _ _ hm ho]
    simp only [fd_F, p20]
theorem orR_9 (T rd a b m : Nat) (hT : Sub T 28799) : (T ||| fd 0 0 5 7 ||| fd 0 0 5 15 ||| fd 0 0 5 20) ||| fd m 0 8 20 = T + (fd m 0 8 20) := by
  simp only [fd_0, Nat.or_zero]
  have O0 := or_step (w := T) (x := fd m 0 8 20) (m := 28799) (mm := 267386880) (k2 := 267415679) hT (fd_sub m 0 8 20 267386880 (by decide)) (by decide) (by decide)
  rw [O0.1]
  try omega
theorem orP_9 (T op rd a b v : Nat) (aq rl : Bool) (hT : Sub T 28799) (ho : op ≠ 65) : T ||| packN (regP 9 0 0 0 ++ immP op 9 v aq rl) = T + (fd v 0 8 20) := by
  have L : regP 9 0 0 0 ++ immP op 9 v aq rl = [(v, 20, 8)] := by
    unfold regP immP
    rw [show fA 9 = false by decide, show fB 9 = false by decide]
    simp
  have P0 := pk_step (w := 0) (v := v) (a := 20) (n := 8) (r := []) (m := 0) (mm := 267386880) (k2 := 267386880) (Sub.zero 0) (by decide) (by decide) (by decide)
  have P : packN [(v, 20, 8)] = 0 + fd (v) 0 8 20 := by
    unfold packN
    rw [P0.1]
    exact List.foldl_nil
  rw [L, P, Sub.sum hT P0.2 (by decide)]
  try omega
theorem fit_9 (w op : Nat) (h1 : 1 ≤ op) (h2 : op < 88) (hf : formI op = 9) : encR 9 (encT op (uN (prd w 9)) (uN (pA w 9)) (uN (pB w 9))) (uN (immW w 9)) (pAq w 9) (pRl w 9) = wordT op + (fd w 20 8 20) ∧ encP op (prd w 9).toNat (pA w 9).toNat (pB w 9).toNat (uN (immW w 9) % 4294967296) (pAq w 9) (pRl w 9) = wordT op + (fd w 20 8 20) := by
  have hm := tabMask op h2 h1
  have hb := tabBase op h2 h1
  have ho := tabNZ op h2 h1 (by rw [hf]; decide)
  rw [hf] at hm hb
  rw [if_neg ho] at hb
  rw [show maskF 9 = 28799 by decide] at hm
  have e1 : prd w 9 = 0 := by unfold prd; rw [if_neg (show ¬ fRd 9 = true by decide)]
  have e2 : pA w 9 = 0 := by unfold pA; rw [if_neg (show ¬ fA 9 = true by decide)]
  have e3 : pB w 9 = 0 := by unfold pB; rw [if_neg (show ¬ fB 9 = true by decide)]
  have mW : immW w 9 = ((F w 20 8 * 2 ^ 0 : Nat) : Int) := by unfold immW; simp only [Int.reduceEq, if_true, if_false]
  have hi : uN (immW w 9) % 2 ^ 8 = (F w 20 8 * 2 ^ 0) % 2 ^ 8 := by rw [mW, uN_F0 w _ _ (by decide), Nat.pow_zero, Nat.mul_one]
  have hj := mod32 hi (by decide)
  clear mW
  revert hi hj
  generalize uN (immW w 9) % 4294967296 = v
  generalize uN (immW w 9) = m
  intro hi hj
  have s20 : F (F w 20 8 * 2 ^ 0) 0 8 = F w 20 8 := by
    have := F_lt w 20 8
    revert this
    generalize F w 20 8 = x20
    simp only [F, Nat.reducePow]
    omega
  have i20 : fd m 0 8 20 = fd w 20 8 20 := fd_of ((F_low 0 8 hi (by decide)).trans s20) 20
  have p20 : fd v 0 8 20 = fd w 20 8 20 := fd_of ((F_low 0 8 hj (by decide)).trans s20) 20
  have a0 : pAq w 9 = false := by unfold pAq; rw [show fO 9 = false by decide, Bool.false_and]
  have r0 : pRl w 9 = false := by unfold pRl; rw [show fO 9 = false by decide, Bool.false_and]
  rw [a0, r0]
  rw [e1, e2, e3, encT_fd]
  rw [uN_zero]
  constructor
  · rw [encR_ff, encU_9, orR_9 (wordT op) 0 0 0 m hm]
    simp only [i20]
  · unfold encP
    rw [hf, hb]
    simp only [Int.toNat_natCast, Int.toNat_zero]
    rw [orP_9 (wordT op) op 0 0 0 v _ _ hm ho]
    simp only [p20]
theorem orR_10 (T rd a b m aq rl : Nat) (hT : Sub T 4160778367) : (T ||| fd rd 0 5 7 ||| fd a 0 5 15 ||| fd 0 0 5 20) ||| fd aq 0 1 26 ||| fd rl 0 1 25 = T + (fd rd 0 5 7 + fd a 0 5 15 + fd aq 0 1 26 + fd rl 0 1 25) := by
  simp only [fd_0, Nat.or_zero]
  have O0 := or_step (w := T) (x := fd rd 0 5 7) (m := 4160778367) (mm := 3968) (k2 := 4160782335) hT (fd_sub rd 0 5 7 3968 (by decide)) (by decide) (by decide)
  have O1 := or_step (w := T + fd rd 0 5 7) (x := fd a 0 5 15) (m := 4160782335) (mm := 1015808) (k2 := 4161798143) O0.2 (fd_sub a 0 5 15 1015808 (by decide)) (by decide) (by decide)
  have O2 := or_step (w := T + fd rd 0 5 7 + fd a 0 5 15) (x := fd aq 0 1 26) (m := 4161798143) (mm := 67108864) (k2 := 4228907007) O1.2 (fd_sub aq 0 1 26 67108864 (by decide)) (by decide) (by decide)
  have O3 := or_step (w := T + fd rd 0 5 7 + fd a 0 5 15 + fd aq 0 1 26) (x := fd rl 0 1 25) (m := 4228907007) (mm := 33554432) (k2 := 4262461439) O2.2 (fd_sub rl 0 1 25 33554432 (by decide)) (by decide) (by decide)
  rw [O0.1, O1.1, O2.1, O3.1]
  try omega
theorem orP_10 (T op rd a b v : Nat) (aq rl : Bool) (hT : Sub T 4160778367) (ho : op ≠ 65) : T ||| packN (regP 10 rd a 0 ++ immP op 10 v aq rl) = T + (fd rd 0 5 7 + fd a 0 5 15 + fd (bitN aq) 0 1 26 + fd (bitN rl) 0 1 25) := by
  by_cases z : rd = 0
  · have L : regP 10 rd a 0 ++ immP op 10 v aq rl = [(a, 15, 5), (bitN aq, 26, 1), (bitN rl, 25, 1)] := by
      unfold regP immP
      rw [show fA 10 = true by decide, show fB 10 = false by decide, if_pos z]
      simp
    have P0 := pk_step (w := 0) (v := a) (a := 15) (n := 5) (r := [(bitN aq, 26, 1), (bitN rl, 25, 1)]) (m := 0) (mm := 1015808) (k2 := 1015808) (Sub.zero 0) (by decide) (by decide) (by decide)
    have P1 := pk_step (w := 0 + fd (a) 0 5 15) (v := bitN aq) (a := 26) (n := 1) (r := [(bitN rl, 25, 1)]) (m := 1015808) (mm := 67108864) (k2 := 68124672) P0.2 (by decide) (by decide) (by decide)
    have P2 := pk_step (w := 0 + fd (a) 0 5 15 + fd (bitN aq) 0 1 26) (v := bitN rl) (a := 25) (n := 1) (r := []) (m := 68124672) (mm := 33554432) (k2 := 101679104) P1.2 (by decide) (by decide) (by decide)
    have P : packN [(a, 15, 5), (bitN aq, 26, 1), (bitN rl, 25, 1)] = 0 + fd (a) 0 5 15 + fd (bitN aq) 0 1 26 + fd (bitN rl) 0 1 25 := by
      unfold packN
      rw [P0.1, P1.1, P2.1]
      exact List.foldl_nil
    rw [L, P, Sub.sum hT P2.2 (by decide)]
    rw [z, fd_0]
    try omega
  · have L : regP 10 rd a 0 ++ immP op 10 v aq rl = [(a, 15, 5), (rd, 7, 5), (bitN aq, 26, 1), (bitN rl, 25, 1)] := by
      unfold regP immP
      rw [show fA 10 = true by decide, show fB 10 = false by decide, if_neg z]
      simp
    have P0 := pk_step (w := 0) (v := a) (a := 15) (n := 5) (r := [(rd, 7, 5), (bitN aq, 26, 1), (bitN rl, 25, 1)]) (m := 0) (mm := 1015808) (k2 := 1015808) (Sub.zero 0) (by decide) (by decide) (by decide)
    have P1 := pk_step (w := 0 + fd (a) 0 5 15) (v := rd) (a := 7) (n := 5) (r := [(bitN aq, 26, 1), (bitN rl, 25, 1)]) (m := 1015808) (mm := 3968) (k2 := 1019776) P0.2 (by decide) (by decide) (by decide)
    have P2 := pk_step (w := 0 + fd (a) 0 5 15 + fd (rd) 0 5 7) (v := bitN aq) (a := 26) (n := 1) (r := [(bitN rl, 25, 1)]) (m := 1019776) (mm := 67108864) (k2 := 68128640) P1.2 (by decide) (by decide) (by decide)
    have P3 := pk_step (w := 0 + fd (a) 0 5 15 + fd (rd) 0 5 7 + fd (bitN aq) 0 1 26) (v := bitN rl) (a := 25) (n := 1) (r := []) (m := 68128640) (mm := 33554432) (k2 := 101683072) P2.2 (by decide) (by decide) (by decide)
    have P : packN [(a, 15, 5), (rd, 7, 5), (bitN aq, 26, 1), (bitN rl, 25, 1)] = 0 + fd (a) 0 5 15 + fd (rd) 0 5 7 + fd (bitN aq) 0 1 26 + fd (bitN rl) 0 1 25 := by
      unfold packN
      rw [P0.1, P1.1, P2.1, P3.1]
      exact List.foldl_nil
    rw [L, P, Sub.sum hT P3.2 (by decide)]
    try omega
theorem fit_10 (w op : Nat) (h1 : 1 ≤ op) (h2 : op < 88) (hf : formI op = 10) : encR 10 (encT op (uN (prd w 10)) (uN (pA w 10)) (uN (pB w 10))) (uN (immW w 10)) (pAq w 10) (pRl w 10) = wordT op + (fd w 7 5 7 + fd w 15 5 15 + fd w 26 1 26 + fd w 25 1 25) ∧ encP op (prd w 10).toNat (pA w 10).toNat (pB w 10).toNat (uN (immW w 10) % 4294967296) (pAq w 10) (pRl w 10) = wordT op + (fd w 7 5 7 + fd w 15 5 15 + fd w 26 1 26 + fd w 25 1 25) := by
  have hm := tabMask op h2 h1
  have hb := tabBase op h2 h1
  have ho := tabNZ op h2 h1 (by rw [hf]; decide)
  rw [hf] at hm hb
  rw [if_neg ho] at hb
  rw [show maskF 10 = 4160778367 by decide] at hm
  have e1 : prd w 10 = ((F w 7 5 : Nat) : Int) := by unfold prd; rw [if_pos (show fRd 10 = true by decide)]
  have e2 : pA w 10 = ((F w 15 5 : Nat) : Int) := by unfold pA; rw [if_pos (show fA 10 = true by decide)]
  have e3 : pB w 10 = 0 := by unfold pB; rw [if_neg (show ¬ fB 10 = true by decide)]
  generalize uN (immW w 10) % 4294967296 = v
  generalize uN (immW w 10) = m
  have q1 : bitN (pAq w 10) = F w 26 1 := by
    have := F_lt w 26 1
    unfold pAq
    rw [show fO 10 = true by decide, Bool.true_and]
    unfold bitN
    rcases (by omega : F w 26 1 = 0 ∨ F w 26 1 = 1) with q | q <;> rw [q] <;> decide
  have q2 : bitN (pRl w 10) = F w 25 1 := by
    have := F_lt w 25 1
    unfold pRl
    rw [show fO 10 = true by decide, Bool.true_and]
    unfold bitN
    rcases (by omega : F w 25 1 = 0 ∨ F w 25 1 = 1) with q | q <;> rw [q] <;> decide
  have b1 : fd (bitN (pAq w 10)) 0 1 26 = fd w 26 1 26 := by rw [q1, fd_F]
  have b2 : fd (bitN (pRl w 10)) 0 1 25 = fd w 25 1 25 := by rw [q2, fd_F]
  clear q1 q2
  revert b1 b2
  generalize pAq w 10 = aq
  generalize pRl w 10 = rl
  intro b1 b2
  rw [e1, e2, e3, encT_fd]
  rw [uN_F w 7 5 (by decide)]
  rw [uN_F w 15 5 (by decide)]
  rw [uN_zero]
  constructor
  · have R4 : ∀ t : Nat, encR 10 t m aq rl = t ||| fd (bitN aq) 0 1 26 ||| fd (bitN rl) 0 1 25 := by
      intro t
      unfold encR
      rw [encU_10]
      cases aq <;> cases rl <;> simp [bitN, fd_eq, F]
    rw [R4, orR_10 (wordT op) (F w 7 5) (F w 15 5) 0 m _ _ hm]
    simp only [fd_F, b1, b2]
  · unfold encP
    rw [hf, hb]
    simp only [Int.toNat_natCast, Int.toNat_zero]
    rw [orP_10 (wordT op) op (F w 7 5) (F w 15 5) 0 v _ _ hm ho]
    simp only [fd_F, b1, b2]
theorem orR_11 (T rd a b m aq rl : Nat) (hT : Sub T 4160778367) : (T ||| fd rd 0 5 7 ||| fd a 0 5 15 ||| fd b 0 5 20) ||| fd aq 0 1 26 ||| fd rl 0 1 25 = T + (fd rd 0 5 7 + fd a 0 5 15 + fd b 0 5 20 + fd aq 0 1 26 + fd rl 0 1 25) := by
  have O0 := or_step (w := T) (x := fd rd 0 5 7) (m := 4160778367) (mm := 3968) (k2 := 4160782335) hT (fd_sub rd 0 5 7 3968 (by decide)) (by decide) (by decide)
  have O1 := or_step (w := T + fd rd 0 5 7) (x := fd a 0 5 15) (m := 4160782335) (mm := 1015808) (k2 := 4161798143) O0.2 (fd_sub a 0 5 15 1015808 (by decide)) (by decide) (by decide)
  have O2 := or_step (w := T + fd rd 0 5 7 + fd a 0 5 15) (x := fd b 0 5 20) (m := 4161798143) (mm := 32505856) (k2 := 4194303999) O1.2 (fd_sub b 0 5 20 32505856 (by decide)) (by decide) (by decide)
  have O3 := or_step (w := T + fd rd 0 5 7 + fd a 0 5 15 + fd b 0 5 20) (x := fd aq 0 1 26) (m := 4194303999) (mm := 67108864) (k2 := 4261412863) O2.2 (fd_sub aq 0 1 26 67108864 (by decide)) (by decide) (by decide)
  have O4 := or_step (w := T + fd rd 0 5 7 + fd a 0 5 15 + fd b 0 5 20 + fd aq 0 1 26) (x := fd rl 0 1 25) (m := 4261412863) (mm := 33554432) (k2 := 4294967295) O3.2 (fd_sub rl 0 1 25 33554432 (by decide)) (by decide) (by decide)
  rw [O0.1, O1.1, O2.1, O3.1, O4.1]
  try omega
theorem orP_11 (T op rd a b v : Nat) (aq rl : Bool) (hT : Sub T 4160778367) (ho : op ≠ 65) : T ||| packN (regP 11 rd a b ++ immP op 11 v aq rl) = T + (fd rd 0 5 7 + fd a 0 5 15 + fd b 0 5 20 + fd (bitN aq) 0 1 26 + fd (bitN rl) 0 1 25) := by
  by_cases z : rd = 0
  · have L : regP 11 rd a b ++ immP op 11 v aq rl = [(a, 15, 5), (b, 20, 5), (bitN aq, 26, 1), (bitN rl, 25, 1)] := by
      unfold regP immP
      rw [show fA 11 = true by decide, show fB 11 = true by decide, if_pos z]
      simp
    have P0 := pk_step (w := 0) (v := a) (a := 15) (n := 5) (r := [(b, 20, 5), (bitN aq, 26, 1), (bitN rl, 25, 1)]) (m := 0) (mm := 1015808) (k2 := 1015808) (Sub.zero 0) (by decide) (by decide) (by decide)
    have P1 := pk_step (w := 0 + fd (a) 0 5 15) (v := b) (a := 20) (n := 5) (r := [(bitN aq, 26, 1), (bitN rl, 25, 1)]) (m := 1015808) (mm := 32505856) (k2 := 33521664) P0.2 (by decide) (by decide) (by decide)
    have P2 := pk_step (w := 0 + fd (a) 0 5 15 + fd (b) 0 5 20) (v := bitN aq) (a := 26) (n := 1) (r := [(bitN rl, 25, 1)]) (m := 33521664) (mm := 67108864) (k2 := 100630528) P1.2 (by decide) (by decide) (by decide)
    have P3 := pk_step (w := 0 + fd (a) 0 5 15 + fd (b) 0 5 20 + fd (bitN aq) 0 1 26) (v := bitN rl) (a := 25) (n := 1) (r := []) (m := 100630528) (mm := 33554432) (k2 := 134184960) P2.2 (by decide) (by decide) (by decide)
    have P : packN [(a, 15, 5), (b, 20, 5), (bitN aq, 26, 1), (bitN rl, 25, 1)] = 0 + fd (a) 0 5 15 + fd (b) 0 5 20 + fd (bitN aq) 0 1 26 + fd (bitN rl) 0 1 25 := by
      unfold packN
      rw [P0.1, P1.1, P2.1, P3.1]
      exact List.foldl_nil
    rw [L, P, Sub.sum hT P3.2 (by decide)]
    rw [z, fd_0]
    try omega
  · have L : regP 11 rd a b ++ immP op 11 v aq rl = [(a, 15, 5), (b, 20, 5), (rd, 7, 5), (bitN aq, 26, 1), (bitN rl, 25, 1)] := by
      unfold regP immP
      rw [show fA 11 = true by decide, show fB 11 = true by decide, if_neg z]
      simp
    have P0 := pk_step (w := 0) (v := a) (a := 15) (n := 5) (r := [(b, 20, 5), (rd, 7, 5), (bitN aq, 26, 1), (bitN rl, 25, 1)]) (m := 0) (mm := 1015808) (k2 := 1015808) (Sub.zero 0) (by decide) (by decide) (by decide)
    have P1 := pk_step (w := 0 + fd (a) 0 5 15) (v := b) (a := 20) (n := 5) (r := [(rd, 7, 5), (bitN aq, 26, 1), (bitN rl, 25, 1)]) (m := 1015808) (mm := 32505856) (k2 := 33521664) P0.2 (by decide) (by decide) (by decide)
    have P2 := pk_step (w := 0 + fd (a) 0 5 15 + fd (b) 0 5 20) (v := rd) (a := 7) (n := 5) (r := [(bitN aq, 26, 1), (bitN rl, 25, 1)]) (m := 33521664) (mm := 3968) (k2 := 33525632) P1.2 (by decide) (by decide) (by decide)
    have P3 := pk_step (w := 0 + fd (a) 0 5 15 + fd (b) 0 5 20 + fd (rd) 0 5 7) (v := bitN aq) (a := 26) (n := 1) (r := [(bitN rl, 25, 1)]) (m := 33525632) (mm := 67108864) (k2 := 100634496) P2.2 (by decide) (by decide) (by decide)
    have P4 := pk_step (w := 0 + fd (a) 0 5 15 + fd (b) 0 5 20 + fd (rd) 0 5 7 + fd (bitN aq) 0 1 26) (v := bitN rl) (a := 25) (n := 1) (r := []) (m := 100634496) (mm := 33554432) (k2 := 134188928) P3.2 (by decide) (by decide) (by decide)
    have P : packN [(a, 15, 5), (b, 20, 5), (rd, 7, 5), (bitN aq, 26, 1), (bitN rl, 25, 1)] = 0 + fd (a) 0 5 15 + fd (b) 0 5 20 + fd (rd) 0 5 7 + fd (bitN aq) 0 1 26 + fd (bitN rl) 0 1 25 := by
      unfold packN
      rw [P0.1, P1.1, P2.1, P3.1, P4.1]
      exact List.foldl_nil
    rw [L, P, Sub.sum hT P4.2 (by decide)]
    try omega
theorem fit_11 (w op : Nat) (h1 : 1 ≤ op) (h2 : op < 88) (hf : formI op = 11) : encR 11 (encT op (uN (prd w 11)) (uN (pA w 11)) (uN (pB w 11))) (uN (immW w 11)) (pAq w 11) (pRl w 11) = wordT op + (fd w 7 5 7 + fd w 15 5 15 + fd w 20 5 20 + fd w 26 1 26 + fd w 25 1 25) ∧ encP op (prd w 11).toNat (pA w 11).toNat (pB w 11).toNat (uN (immW w 11) % 4294967296) (pAq w 11) (pRl w 11) = wordT op + (fd w 7 5 7 + fd w 15 5 15 + fd w 20 5 20 + fd w 26 1 26 + fd w 25 1 25) := by
  have hm := tabMask op h2 h1
  have hb := tabBase op h2 h1
  have ho := tabNZ op h2 h1 (by rw [hf]; decide)
  rw [hf] at hm hb
  rw [if_neg ho] at hb
  rw [show maskF 11 = 4160778367 by decide] at hm
  have e1 : prd w 11 = ((F w 7 5 : Nat) : Int) := by unfold prd; rw [if_pos (show fRd 11 = true by decide)]
  have e2 : pA w 11 = ((F w 15 5 : Nat) : Int) := by unfold pA; rw [if_pos (show fA 11 = true by decide)]
  have e3 : pB w 11 = ((F w 20 5 : Nat) : Int) := by unfold pB; rw [if_pos (show fB 11 = true by decide)]
  generalize uN (immW w 11) % 4294967296 = v
  generalize uN (immW w 11) = m
  have q1 : bitN (pAq w 11) = F w 26 1 := by
    have := F_lt w 26 1
    unfold pAq
    rw [show fO 11 = true by decide, Bool.true_and]
    unfold bitN
    rcases (by omega : F w 26 1 = 0 ∨ F w 26 1 = 1) with q | q <;> rw [q] <;> decide
  have q2 : bitN (pRl w 11) = F w 25 1 := by
    have := F_lt w 25 1
    unfold pRl
    rw [show fO 11 = true by decide, Bool.true_and]
    unfold bitN
    rcases (by omega : F w 25 1 = 0 ∨ F w 25 1 = 1) with q | q <;> rw [q] <;> decide
  have b1 : fd (bitN (pAq w 11)) 0 1 26 = fd w 26 1 26 := by rw [q1, fd_F]
  have b2 : fd (bitN (pRl w 11)) 0 1 25 = fd w 25 1 25 := by rw [q2, fd_F]
  clear q1 q2
  revert b1 b2
  generalize pAq w 11 = aq
  generalize pRl w 11 = rl
  intro b1 b2
  rw [e1, e2, e3, encT_fd]
  rw [uN_F w 7 5 (by decide)]
  rw [uN_F w 15 5 (by decide)]
  rw [uN_F w 20 5 (by decide)]
  constructor
  · have R4 : ∀ t : Nat, encR 11 t m aq rl = t ||| fd (bitN aq) 0 1 26 ||| fd (bitN rl) 0 1 25 := by
      intro t
      unfold encR
      rw [encU_11]
      cases aq <;> cases rl <;> simp [bitN, fd_eq, F]
    rw [R4, orR_11 (wordT op) (F w 7 5) (F w 15 5) (F w 20 5) m _ _ hm]
    simp only [fd_F, b1, b2]
  · unfold encP
    rw [hf, hb]
    simp only [Int.toNat_natCast, Int.toNat_zero]
    rw [orP_11 (wordT op) op (F w 7 5) (F w 15 5) (F w 20 5) v _ _ hm ho]
    simp only [fd_F, b1, b2]
end
section
def okR (w op : Nat) : Prop := wordT op % 128 = w % 128 ∧ mayI op (prd w (formI op)) (pA w (formI op)) (pB w (formI op)) (immW w (formI op)) (pAq w (formI op)) (pRl w (formI op)) = true ∧ encR (formI op) (encT op (uN (prd w (formI op))) (uN (pA w (formI op))) (uN (pB w (formI op)))) (uN (immW w (formI op))) (pAq w (formI op)) (pRl w (formI op)) = w
theorem st_mid {base : Nat} {hh ex : Heap} {t : TypeId} {cs ds : List V} {n : Nat} (h1 : ds.length = n) (h2 : cs.length = n) (h3 : ds.all zm = true) (h4 : base ≤ hh.length) : storeV base (hh ++ [.box t cs] ++ ex) n (.ptr hh.length 0) (.agg ds) = some (hh ++ [.box t ds] ++ ex) := by
  unfold storeV
  have e : (hh ++ [Obj.box t cs] ++ ex)[hh.length]? = some (.box t cs) := by simp
  have e2 : ∀ z : Obj, (hh ++ [Obj.box t cs] ++ ex).set hh.length z = hh ++ [z] ++ ex := fun z => by simp
  rw [if_pos ⟨h1, h3⟩]
  simp only [e, e2]
  rw [if_pos ⟨by omega, may_new h4⟩, show (V.agg ds).cells = ds from rfl, putAllW (by omega)]
theorem ld_mid {hh ex : Heap} {t : TypeId} {cs : List V} {n : Nat} (h : cs.length = n) : zl (hh ++ [.box t cs] ++ ex) (some n) (.ptr hh.length 0) = some (.agg cs) := by
  have e : (hh ++ [Obj.box t cs] ++ ex)[hh.length]? = some (.box t cs) := by simp
  simp only [zl, e, zb]
  rw [if_pos (by omega), List.drop_zero, List.take_of_length_le (by omega)]
theorem take_mid (h : Heap) (x : Obj) (ex : Heap) : (h ++ [x] ++ ex).take h.length = h := by simp
theorem st_mid2 {base : Nat} {hh ex : Heap} {y : Obj} {t : TypeId} {cs ds : List V} {n : Nat} (h1 : ds.length = n) (h2 : cs.length = n) (h3 : ds.all zm = true) (h4 : base ≤ hh.length) : storeV base (hh ++ [.box t cs] ++ ex ++ [y]) n (.ptr hh.length 0) (.agg ds) = some (hh ++ [.box t ds] ++ ex ++ [y]) := by
  rw [List.append_assoc _ ex, List.append_assoc _ ex]
  exact st_mid h1 h2 h3 h4
theorem ld_mid2 {hh ex : Heap} {y : Obj} {t : TypeId} {cs : List V} {n : Nat} (h : cs.length = n) : zl (hh ++ [.box t cs] ++ ex ++ [y]) (some n) (.ptr hh.length 0) = some (.agg cs) := by
  rw [List.append_assoc _ ex]
  exact ld_mid h
theorem take_mid2 (h : Heap) (x y : Obj) (ex : Heap) : (h ++ [x] ++ ex ++ [y]).take h.length = h := by simp
set_option maxHeartbeats 2000000 in
theorem decR_r {base : Nat} (w : Nat) (h : Heap) (hw : w < 2 ^ 32) (D : V) (hy : ∀ op : Nat, 1 ≤ op → op < 88 → okR w op → D = partsV w op) (hn : (∀ op : Nat, 1 ≤ op → op < 88 → ¬ okR w op) → D = ins 0 0 0 0 w false false) : WpF S0 base k_spinnakerref05_Decode [U32 w] h fun v h' => v = D ∧ h' = h := by
  have ew : IntKind.i64.wrap (w : Int) = w := wrapn_i64 (by omega)
  have eu : IntKind.u64.wrap (w : Int) = w := wrapn_u64 (by omega)
  have em : ∀ o i : Int, fillParts [.sc (.int .i64 0), .sc (.int .i64 0), .sc (.int .i64 0), .sc (.int .i64 0), .sc (.int .i64 0), .sc (.bool false), .sc (.bool false)] [(0, 1, .sc (.int .i64 o)), (4, 1, .sc (.int .i64 i))] = some [.sc (.int .i64 o), .sc (.int .i64 0), .sc (.int .i64 0), .sc (.int .i64 0), .sc (.int .i64 i), .sc (.bool false), .sc (.bool false)] := fun o i => rfl
  first | refine zu (A := f_spinnakerref05_Decode) rfl rfl rfl rfl ?_ | refine zB (A := f_spinnakerref05_Decode) rfl rfl rfl rfl ?_
  simp only [f_spinnakerref05_Decode, oD, cD]
  simp only [SQ, SQB, zm, AOp.opds, step, Opd.get, zk, bin, zc, IntKind.signed, zi, zj, zb, unary, ze, zd, za, zo, zr, zh, zf, zg, zp, Cp.isFull, isNil, zq, simprocAttr, SQX, V.cells]
  refine WpC_loopI (fun k en h' => ∃ j : Nat, ∃ ex : Heap, k = 88 - j ∧ 1 ≤ j ∧ j ≤ 88 ∧ en 3 = V.int j ∧ en 0 = U32 w ∧ en 2 = .ptr h.length 0 ∧ (∀ op : Nat, 1 ≤ op → op < j → ¬ okR w op) ∧ h' = h ++ [.box 30 [.sc (.int .i64 0), .sc (.int .i64 0), .sc (.int .i64 0), .sc (.int .i64 0), .sc (.int .i64 0), .sc (.bool false), .sc (.bool false)]] ++ ex) 87 ⟨1, [], rfl, by decide, by decide, rfl, rfl, rfl, fun op h1 h2 => absurd h1 (by omega), by rw [List.append_nil]⟩ ?_
  rintro k en h' ⟨j, ex, rfl, hj1, hj2, e3, e0, e2, hno, rfl⟩
  by_cases h1 : j < 88
  · have hWd := fun base h => word4_r (base := base) j h hj1 h1
    have hF := fun base h => form3_r (base := base) j h
    have hI := fun base f h => rimm_r (base := base) w f h hw
    have hRd := fun base h => hasRd_r (base := base) j h
    have hA := fun base h => hasA_r (base := base) j h
    have hB := fun base h => hasB_r (base := base) j h
    have t1 : ((wordT j : Nat) : Int).tmod 128 = ((wordT j % 128 : Nat) : Int) := by rw [Int.tmod_eq_emod_of_nonneg (Int.natCast_nonneg _)]; omega
    have t2 : (w : Int).tmod 128 = ((w % 128 : Nat) : Int) := by rw [Int.tmod_eq_emod_of_nonneg (Int.natCast_nonneg _)]; omega
    have nx : IntKind.i64.wrap ((j : Int) + 1) = ((j + 1 : Nat) : Int) := by rw [wrap_i64 (by omega) (by omega)]; rfl
    by_cases c1 : wordT j % 128 = w % 128
    · have d1 : ∀ base h, WpF S0 base k_spinnakerref05_bits [U32 w, .sc (.int .i64 7), .sc (.int .i64 5), .sc (.int .i64 0)] h fun v h' => v = V.int (F w 7 5 : Nat) ∧ h' = h := fun base h => by
        have := rbits5_r (base := base) w 7 5 0 h hw (by decide) (by decide)
        rw [Nat.pow_zero, Nat.mul_one] at this
        exact this
      have d2 : ∀ base h, WpF S0 base k_spinnakerref05_bits [U32 w, .sc (.int .i64 15), .sc (.int .i64 5), .sc (.int .i64 0)] h fun v h' => v = V.int (F w 15 5 : Nat) ∧ h' = h := fun base h => by
        have := rbits5_r (base := base) w 15 5 0 h hw (by decide) (by decide)
        rw [Nat.pow_zero, Nat.mul_one] at this
        exact this
      have d3 : ∀ base h, WpF S0 base k_spinnakerref05_bits [U32 w, .sc (.int .i64 20), .sc (.int .i64 5), .sc (.int .i64 0)] h fun v h' => v = V.int (F w 20 5 : Nat) ∧ h' = h := fun base h => by
        have := rbits5_r (base := base) w 20 5 0 h hw (by decide) (by decide)
        rw [Nat.pow_zero, Nat.mul_one] at this
        exact this
      have q1 : ∀ base h, WpF S0 base k_spinnakerref01_Bit [U64 w, .sc (.int .i64 26)] h fun v h' => v = V.int (F w 26 1 : Nat) ∧ h' = h := fun base h => rBit_r w 26 h (by omega) (by decide)
      have q2 : ∀ base h, WpF S0 base k_spinnakerref01_Bit [U64 w, .sc (.int .i64 25)] h fun v h' => v = V.int (F w 25 1 : Nat) ∧ h' = h := fun base h => rBit_r w 25 h (by omega) (by decide)
      have hM := fun base h => may3_r (base := base) j (prd w (formI j)) (pA w (formI j)) (pB w (formI j)) (immW w (formI j)) (pAq w (formI j)) (pRl w (formI j)) h
      have hE := fun base h => enc4_r (base := base) j (prd w (formI j)) (pA w (formI j)) (pB w (formI j)) (immW w (formI j)) (pAq w (formI j)) (pRl w (formI j)) h hj1 h1
      have hyj := hy j hj1 h1
      have ll : (h.length ≤ (h ++ [Obj.box 30 [.sc (.int .i64 0), .sc (.int .i64 0), .sc (.int .i64 0), .sc (.int .i64 0), .sc (.int .i64 0), .sc (.bool false), .sc (.bool false)]] ++ ex).length) = True := by simp
      have hj87 : (j : Int) ≤ 87 := by omega
      have hstep : ¬ okR w j → ∀ op : Nat, 1 ≤ op → op < j + 1 → ¬ okR w op := fun hk op a b => by
        by_cases q : op = j
        · subst q; exact hk
        · exact hno op a (by omega)
      unfold partsV at hyj
      have hk0 : okR w j ↔ _ := and_iff_right c1
      revert hM hE hF hRd hA hB hyj hk0
      generalize formI j = f
      intro hF hRd hA hB hM hE hyj hk0
      unfold prd pA pB pAq pRl at hM hE hyj hk0
      cases cR : fRd f <;> cases cA : fA f <;> cases cB : fB f <;> by_cases c10 : f = 10 <;> by_cases c11 : f = 11 <;> (try (exfalso; (first | subst c10 | subst c11); (simp [fRd, fA, fB] at cR cA cB); done))
      all_goals simp only [cR, cA, cB, if_true, if_false, Bool.false_eq_true] at hM hE hyj hk0
      all_goals (first | (have cO : fO f = false := by simp [fO, c10, c11]) | (have cO : fO f = true := by simp [fO, c10, c11]))
      all_goals simp only [cO, Bool.true_and, Bool.false_and] at hM hE hyj hk0
      all_goals (try rw [c10] at hM hE hyj hk0)
      all_goals (try rw [c11] at hM hE hyj hk0)
      all_goals rw [cR] at hRd
      all_goals rw [cA] at hA
      all_goals rw [cB] at hB
      all_goals ((simp only [SQ, zm, AOp.opds, step, Opd.get, zk, bin, zc, IntKind.signed, zi, zj, zb, unary, ze, zd, za, zo, zr, zh, zf, zg, zp, Cp.isFull, isNil, zq, simprocAttr, SQX, V.cells, zn (hM _ _), zn (hE _ _), nx, e3, e0, e2, hj87, ll, c1, zn (hWd _ _), t1, t2, zn (hF _ _), zn (hI _ _ _), zn (hRd _ _), zn (hA _ _), zn (hB _ _), zn (d1 _ _), zn (d2 _ _), zn (d3 _ _), zn (q1 _ _), zn (q2 _ _), eu, getParts, em, st_new, st_cell, ld_new, st_mid, ld_mid, len_le, take_mid, st_mid2, ld_mid2, take_mid2, Nat.le_refl, List.set_cons_zero, List.set_cons_succ, c10, c11]; repeat' ((first | refine condQ_i ?_ ?_ | refine guardQ_t ?_ ?_ | refine guardQ_f ?_ ?_) <;> (intro hb; simp only [SQ, zm, AOp.opds, step, Opd.get, zk, bin, zc, IntKind.signed, zi, zj, zb, unary, ze, zd, za, zo, zr, zh, zf, zg, zp, Cp.isFull, isNil, zq, simprocAttr, SQX, V.cells, hb, zn (hM _ _), zn (hE _ _), nx, e3, e0, e2, hj87, ll, c1, zn (hWd _ _), t1, t2, zn (hF _ _), zn (hI _ _ _), zn (hRd _ _), zn (hA _ _), zn (hB _ _), zn (d1 _ _), zn (d2 _ _), zn (d3 _ _), zn (q1 _ _), zn (q2 _ _), eu, getParts, em, st_new, st_cell, ld_new, st_mid, ld_mid, len_le, take_mid, st_mid2, ld_mid2, take_mid2, Nat.le_refl, List.set_cons_zero, List.set_cons_succ, c10, c11]))))
      all_goals (first
        | (refine (hyj (hk0.2 ⟨?_, ?_⟩)).symm <;> simp_all; done)
        | (refine ⟨88 - (j + 1), by omega, j + 1, ?_, rfl, by omega, by omega, rfl, hstep (fun z => ?_), ?_⟩
           rotate_left
           · have z := hk0.1 z
             simp_all
           · simp only [List.append_assoc]
             rfl)
        | trace_state)
    · simp only [SQ, SQB, zm, AOp.opds, step, Opd.get, zk, bin, zc, IntKind.signed, zi, zj, zb, unary, ze, zd, za, zo, zr, zh, zf, zg, zp, Cp.isFull, isNil, zq, simprocAttr, SQX, V.cells, e3, e0, e2, show (j : Int) ≤ 87 by omega, zn (hWd _ _), t1, t2, show ¬ ((wordT j % 128 : Nat) : Int) = ((w % 128 : Nat) : Int) by omega, nx]
      exact ⟨88 - (j + 1), by omega, j + 1, ex, rfl, by omega, by omega, rfl, fun op a b => by
        by_cases q : op = j
        · subst q; exact fun z => c1 z.1
        · exact hno op a (by omega), rfl⟩
  · have : j = 88 := by omega
    subst this
    rw [hn (fun op a b => hno op a b)]
    simp only [SQ, SQB, zm, AOp.opds, step, Opd.get, zk, bin, zc, IntKind.signed, zi, zj, zb, unary, ze, zd, za, zo, zr, zh, zf, zg, zp, Cp.isFull, isNil, zq, simprocAttr, SQX, V.cells, e3, e0, e2, getParts, em, ew, st_mid, ld_mid, take_mid, Nat.le_refl]
end
end Go.Am
