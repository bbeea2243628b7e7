/- The abstract machine and what is proved in it, part 13. -/
import Derived.Test.YtbeaelflokcdjaaGreatDoorAm12
set_option linter.unusedVariables false
set_option linter.unusedSimpArgs false
namespace Go.Am
section
set_option linter.unusedVariables false
theorem tabForm : ∀ op : Nat, op < 88 → 1 ≤ op → formI op = 0 ∨ formI op = 1 ∨ formI op = 2 ∨ formI op = 3 ∨ formI op = 4 ∨ formI op = 5 ∨ formI op = 6 ∨ formI op = 7 ∨ formI op = 8 ∨ formI op = 9 ∨ formI op = 10 ∨ formI op = 11 := by decide +kernel
theorem encP_64 : encP 64 0 0 0 0 false false = 115 := by decide +kernel
theorem encP_65 : encP 65 0 0 0 0 false false = 1048691 := by decide +kernel
theorem wordT_64 : wordT 64 = 115 := by decide +kernel
theorem wordT_65 : wordT 65 = 1048691 := by decide +kernel
theorem fit_0 (w op : Nat) (h1 : 1 ≤ op) (h2 : op < 88) (hf : formI op = 0) : encR 0 (encT op (uN (prd w 0)) (uN (pA w 0)) (uN (pB w 0))) (uN (immW w 0)) (pAq w 0) (pRl w 0) = wordT op ∧ encP op (prd w 0).toNat (pA w 0).toNat (pB w 0).toNat (uN (immW w 0) % 4294967296) (pAq w 0) (pRl w 0) = wordT op := by
  have e1 : prd w 0 = 0 := by unfold prd; rw [if_neg (show ¬ fRd 0 = true by decide)]
  have e2 : pA w 0 = 0 := by unfold pA; rw [if_neg (show ¬ fA 0 = true by decide)]
  have e3 : pB w 0 = 0 := by unfold pB; rw [if_neg (show ¬ fB 0 = true by decide)]
  have e4 : immW w 0 = 0 := by unfold immW; simp only [Int.reduceEq, if_true, if_false]
  have a0 : pAq w 0 = false := by unfold pAq; rw [show fO 0 = false by decide, Bool.false_and]
  have r0 : pRl w 0 = false := by unfold pRl; rw [show fO 0 = false by decide, Bool.false_and]
  rw [e1, e2, e3, e4, a0, r0, uN_zero, encR_ff, encU_0, encT_fd]
  simp only [fd_0, Nat.or_zero, Int.toNat_zero, Nat.zero_mod, true_and]
  rcases tabZ op h2 h1 hf with rfl | rfl
  · rw [encP_64, wordT_64]
  · rw [encP_65, wordT_65]
theorem num_1 (w o g s : Nat) (lo : o < 2 ^ 7) (lg : g < 2 ^ 3) (ls : s < 2 ^ 7) (hg : g = 0) (hs : s = 0) (h : o + g * 4096 + s * 33554432 + (fd w 7 5 7 + fd w 12 20 12) = w) (hw : w < 2 ^ 32) : F w 0 7 = o := by
  simp only [fd_eq, F, Nat.reducePow, Nat.pow_zero, Nat.div_one] at *
  omega
theorem num_2 (w o g s : Nat) (lo : o < 2 ^ 7) (lg : g < 2 ^ 3) (ls : s < 2 ^ 7) (hg : g = 0) (hs : s = 0) (h : o + g * 4096 + s * 33554432 + (fd w 7 5 7 + fd w 31 1 31 + fd w 21 10 21 + fd w 20 1 20 + fd w 12 8 12) = w) (hw : w < 2 ^ 32) : F w 0 7 = o := by
  simp only [fd_eq, F, Nat.reducePow, Nat.pow_zero, Nat.div_one] at *
  omega
theorem num_3 (w o g s : Nat) (lo : o < 2 ^ 7) (lg : g < 2 ^ 3) (ls : s < 2 ^ 7) (hs : s = 0) (h : o + g * 4096 + s * 33554432 + (fd w 7 5 7 + fd w 15 5 15 + fd w 20 12 20) = w) (hw : w < 2 ^ 32) : F w 0 7 = o ∧ F w 12 3 = g := by
  simp only [fd_eq, F, Nat.reducePow, Nat.pow_zero, Nat.div_one] at *
  omega
theorem num_4 (w o g s : Nat) (lo : o < 2 ^ 7) (lg : g < 2 ^ 3) (ls : s < 2 ^ 7) (hs : s = 0) (h : o + g * 4096 + s * 33554432 + (fd w 15 5 15 + fd w 20 5 20 + fd w 31 1 31 + fd w 25 6 25 + fd w 8 4 8 + fd w 7 1 7) = w) (hw : w < 2 ^ 32) : F w 0 7 = o ∧ F w 12 3 = g := by
  simp only [fd_eq, F, Nat.reducePow, Nat.pow_zero, Nat.div_one] at *
  omega
theorem num_5 (w o g s : Nat) (lo : o < 2 ^ 7) (lg : g < 2 ^ 3) (ls : s < 2 ^ 7) (hs : s = 0) (h : o + g * 4096 + s * 33554432 + (fd w 15 5 15 + fd w 20 5 20 + fd w 25 7 25 + fd w 7 5 7) = w) (hw : w < 2 ^ 32) : F w 0 7 = o ∧ F w 12 3 = g := by
  simp only [fd_eq, F, Nat.reducePow, Nat.pow_zero, Nat.div_one] at *
  omega
theorem num_6 (w o g s : Nat) (lo : o < 2 ^ 7) (lg : g < 2 ^ 3) (ls : s < 2 ^ 7)  (h : o + g * 4096 + s * 33554432 + (fd w 7 5 7 + fd w 15 5 15 + fd w 20 5 20) = w) (hw : w < 2 ^ 32) : F w 0 7 = o ∧ F w 12 3 = g ∧ F w 25 7 = s := by
  simp only [fd_eq, F, Nat.reducePow, Nat.pow_zero, Nat.div_one] at *
  omega
theorem num_7 (w o g s : Nat) (lo : o < 2 ^ 7) (lg : g < 2 ^ 3) (ls : s < 2 ^ 7) (hs : s % 2 = 0) (h : o + g * 4096 + s * 33554432 + (fd w 7 5 7 + fd w 15 5 15 + fd w 20 6 20) = w) (hw : w < 2 ^ 32) : F w 0 7 = o ∧ F w 12 3 = g ∧ s ≤ F w 25 7 ∧ F w 25 7 < s + 2 := by
  simp only [fd_eq, F, Nat.reducePow, Nat.pow_zero, Nat.div_one] at *
  omega
theorem num_8 (w o g s : Nat) (lo : o < 2 ^ 7) (lg : g < 2 ^ 3) (ls : s < 2 ^ 7)  (h : o + g * 4096 + s * 33554432 + (fd w 7 5 7 + fd w 15 5 15 + fd w 20 5 20) = w) (hw : w < 2 ^ 32) : F w 0 7 = o ∧ F w 12 3 = g ∧ F w 25 7 = s := by
  simp only [fd_eq, F, Nat.reducePow, Nat.pow_zero, Nat.div_one] at *
  omega
theorem num_9 (w o g s : Nat) (lo : o < 2 ^ 7) (lg : g < 2 ^ 3) (ls : s < 2 ^ 7) (hs : s = 0) (h : o + g * 4096 + s * 33554432 + (fd w 20 8 20) = w) (hw : w < 2 ^ 32) : F w 0 7 = o ∧ F w 12 3 = g := by
  simp only [fd_eq, F, Nat.reducePow, Nat.pow_zero, Nat.div_one] at *
  omega
theorem num_10 (w o g s : Nat) (lo : o < 2 ^ 7) (lg : g < 2 ^ 3) (ls : s < 2 ^ 7) (hs : s % 4 = 0) (h : o + g * 4096 + s * 33554432 + (fd w 7 5 7 + fd w 15 5 15 + fd w 26 1 26 + fd w 25 1 25) = w) (hw : w < 2 ^ 32) : F w 0 7 = o ∧ F w 12 3 = g ∧ s ≤ F w 25 7 ∧ F w 25 7 < s + 4 := by
  simp only [fd_eq, F, Nat.reducePow, Nat.pow_zero, Nat.div_one] at *
  omega
theorem num_11 (w o g s : Nat) (lo : o < 2 ^ 7) (lg : g < 2 ^ 3) (ls : s < 2 ^ 7) (hs : s % 4 = 0) (h : o + g * 4096 + s * 33554432 + (fd w 7 5 7 + fd w 15 5 15 + fd w 20 5 20 + fd w 26 1 26 + fd w 25 1 25) = w) (hw : w < 2 ^ 32) : F w 0 7 = o ∧ F w 12 3 = g ∧ s ≤ F w 25 7 ∧ F w 25 7 < s + 4 := by
  simp only [fd_eq, F, Nat.reducePow, Nat.pow_zero, Nat.div_one] at *
  omega
theorem sel_op (w op : Nat) (hw : w < 2 ^ 32) (h1 : 1 ≤ op) (h2 : op < 88) (h : encR (formI op) (encT op (uN (prd w (formI op))) (uN (pA w (formI op))) (uN (pB w (formI op)))) (uN (immW w (formI op))) (pAq w (formI op)) (pRl w (formI op)) = w) : opN w = op := by
  have l0 := F_lt (wordT op) 0 7
  have l1 := F_lt (wordT op) 12 3
  have l2 := F_lt (wordT op) 25 7
  rcases tabForm op h2 h1 with hf | hf | hf | hf | hf | hf | hf | hf | hf | hf | hf | hf <;> rw [hf] at h
  · rw [(fit_0 w op h1 h2 hf).1] at h
    subst h
    rcases tabZ op h2 h1 hf with rfl | rfl
    · rw [wordT_64]; decide +kernel
    · rw [wordT_65]; decide +kernel
  · rw [(fit_1 w op h1 h2 hf).1, tabSum op h2 h1 (by rw [hf]; decide)] at h
    have z := num_1 w _ _ _ l0 l1 l2 (tabG op h2 h1 (Or.inl hf)).1 (tabG op h2 h1 (Or.inl hf)).2 h hw
    unfold opN
    rw [z, opF_w _ _ _ _ (tabN op h2 h1 (by rw [hf]; decide))]
    exact opU op h2 h1 (Or.inl hf) _ (F_lt w 12 3) _ (F_lt w 25 7)
  · rw [(fit_2 w op h1 h2 hf).1, tabSum op h2 h1 (by rw [hf]; decide)] at h
    have z := num_2 w _ _ _ l0 l1 l2 (tabG op h2 h1 (Or.inr hf)).1 (tabG op h2 h1 (Or.inr hf)).2 h hw
    unfold opN
    rw [z, opF_w _ _ _ _ (tabN op h2 h1 (by rw [hf]; decide))]
    exact opU op h2 h1 (Or.inr hf) _ (F_lt w 12 3) _ (F_lt w 25 7)
  · rw [(fit_3 w op h1 h2 hf).1, tabSum op h2 h1 (by rw [hf]; decide)] at h
    have z := num_3 w _ _ _ l0 l1 l2 (tabS op h2 h1 (Or.inl hf)) h hw
    unfold opN
    rw [z.1, z.2, opF_w _ _ _ _ (tabN op h2 h1 (by rw [hf]; decide))]
    exact opI op h2 h1 (Or.inl hf) _ (F_lt w 25 7)
  · rw [(fit_4 w op h1 h2 hf).1, tabSum op h2 h1 (by rw [hf]; decide)] at h
    have z := num_4 w _ _ _ l0 l1 l2 (tabS op h2 h1 (Or.inr (Or.inl hf))) h hw
    unfold opN
    rw [z.1, z.2, opF_w _ _ _ _ (tabN op h2 h1 (by rw [hf]; decide))]
    exact opI op h2 h1 (Or.inr (Or.inl hf)) _ (F_lt w 25 7)
  · rw [(fit_5 w op h1 h2 hf).1, tabSum op h2 h1 (by rw [hf]; decide)] at h
    have z := num_5 w _ _ _ l0 l1 l2 (tabS op h2 h1 (Or.inr (Or.inr (Or.inl hf)))) h hw
    unfold opN
    rw [z.1, z.2, opF_w _ _ _ _ (tabN op h2 h1 (by rw [hf]; decide))]
    exact opI op h2 h1 (Or.inr (Or.inr (Or.inl hf))) _ (F_lt w 25 7)
  · rw [(fit_6 w op h1 h2 hf).1, tabSum op h2 h1 (by rw [hf]; decide)] at h
    have z := num_6 w _ _ _ l0 l1 l2 h hw
    unfold opN
    rw [z.1, z.2.1, z.2.2, opF_w _ _ _ _ (tabN op h2 h1 (by rw [hf]; decide))]
    exact opR op h2 h1 (Or.inl hf)
  · rw [(fit_7 w op h1 h2 hf).1, tabSum op h2 h1 (by rw [hf]; decide)] at h
    have z := num_7 w _ _ _ l0 l1 l2 (tab2 op h2 h1 hf) h hw
    unfold opN
    obtain ⟨x, hx⟩ : ∃ x, F w 25 7 = F (wordT op) 25 7 + x := ⟨F w 25 7 - F (wordT op) 25 7, by omega⟩
    rw [z.1, z.2.1, hx, opF_w _ _ _ _ (tabN op h2 h1 (by rw [hf]; decide))]
    exact opH op h2 h1 hf x (by omega)
  · rw [(fit_8 w op h1 h2 hf).1, tabSum op h2 h1 (by rw [hf]; decide)] at h
    have z := num_8 w _ _ _ l0 l1 l2 h hw
    unfold opN
    rw [z.1, z.2.1, z.2.2, opF_w _ _ _ _ (tabN op h2 h1 (by rw [hf]; decide))]
    exact opR op h2 h1 (Or.inr hf)
  · rw [(fit_9 w op h1 h2 hf).1, tabSum op h2 h1 (by rw [hf]; decide)] at h
    have z := num_9 w _ _ _ l0 l1 l2 (tabS op h2 h1 (Or.inr (Or.inr (Or.inr hf)))) h hw
    unfold opN
    rw [z.1, z.2, opF_w _ _ _ _ (tabN op h2 h1 (by rw [hf]; decide))]
    exact opI op h2 h1 (Or.inr (Or.inr (Or.inr hf))) _ (F_lt w 25 7)
  · rw [(fit_10 w op h1 h2 hf).1, tabSum op h2 h1 (by rw [hf]; decide)] at h
    have z := num_10 w _ _ _ l0 l1 l2 (tab4 op h2 h1 (Or.inl hf)) h hw
    unfold opN
    obtain ⟨x, hx⟩ : ∃ x, F w 25 7 = F (wordT op) 25 7 + x := ⟨F w 25 7 - F (wordT op) 25 7, by omega⟩
    rw [z.1, z.2.1, hx, opF_w _ _ _ _ (tabN op h2 h1 (by rw [hf]; decide))]
    exact opA op h2 h1 (Or.inl hf) x (by omega)
  · rw [(fit_11 w op h1 h2 hf).1, tabSum op h2 h1 (by rw [hf]; decide)] at h
    have z := num_11 w _ _ _ l0 l1 l2 (tab4 op h2 h1 (Or.inr hf)) h hw
    unfold opN
    obtain ⟨x, hx⟩ : ∃ x, F w 25 7 = F (wordT op) 25 7 + x := ⟨F w 25 7 - F (wordT op) 25 7, by omega⟩
    rw [z.1, z.2.1, hx, opF_w _ _ _ _ (tabN op h2 h1 (by rw [hf]; decide))]
    exact opA op h2 h1 (Or.inr hf) x (by omega)
theorem enc_same (w op : Nat) (h1 : 1 ≤ op) (h2 : op < 88) : encP op (prd w (formI op)).toNat (pA w (formI op)).toNat (pB w (formI op)).toNat (uN (immW w (formI op)) % 4294967296) (pAq w (formI op)) (pRl w (formI op)) = encR (formI op) (encT op (uN (prd w (formI op))) (uN (pA w (formI op))) (uN (pB w (formI op)))) (uN (immW w (formI op))) (pAq w (formI op)) (pRl w (formI op)) := by
  rcases tabForm op h2 h1 with hf | hf | hf | hf | hf | hf | hf | hf | hf | hf | hf | hf <;> rw [hf]
  · rw [(fit_0 w op h1 h2 hf).1, (fit_0 w op h1 h2 hf).2]
  · rw [(fit_1 w op h1 h2 hf).1, (fit_1 w op h1 h2 hf).2]
  · rw [(fit_2 w op h1 h2 hf).1, (fit_2 w op h1 h2 hf).2]
  · rw [(fit_3 w op h1 h2 hf).1, (fit_3 w op h1 h2 hf).2]
  · rw [(fit_4 w op h1 h2 hf).1, (fit_4 w op h1 h2 hf).2]
  · rw [(fit_5 w op h1 h2 hf).1, (fit_5 w op h1 h2 hf).2]
  · rw [(fit_6 w op h1 h2 hf).1, (fit_6 w op h1 h2 hf).2]
  · rw [(fit_7 w op h1 h2 hf).1, (fit_7 w op h1 h2 hf).2]
  · rw [(fit_8 w op h1 h2 hf).1, (fit_8 w op h1 h2 hf).2]
  · rw [(fit_9 w op h1 h2 hf).1, (fit_9 w op h1 h2 hf).2]
  · rw [(fit_10 w op h1 h2 hf).1, (fit_10 w op h1 h2 hf).2]
  · rw [(fit_11 w op h1 h2 hf).1, (fit_11 w op h1 h2 hf).2]
theorem low_bits (w op : Nat) (hw : w < 2 ^ 32) (h1 : 1 ≤ op) (h2 : op < 88) (h : encR (formI op) (encT op (uN (prd w (formI op))) (uN (pA w (formI op))) (uN (pB w (formI op)))) (uN (immW w (formI op))) (pAq w (formI op)) (pRl w (formI op)) = w) : wordT op % 128 = w % 128 := by
  have l0 := F_lt (wordT op) 0 7
  have l1 := F_lt (wordT op) 12 3
  have l2 := F_lt (wordT op) 25 7
  have e : ∀ x : Nat, x % 128 = F x 0 7 := fun x => by simp only [F, Nat.reducePow, Nat.pow_zero, Nat.div_one]
  rcases tabForm op h2 h1 with hf | hf | hf | hf | hf | hf | hf | hf | hf | hf | hf | hf <;> rw [hf] at h
  · rw [(fit_0 w op h1 h2 hf).1] at h
    try rw [h]
  · rw [(fit_1 w op h1 h2 hf).1, tabSum op h2 h1 (by rw [hf]; decide)] at h
    have z := num_1 w _ _ _ l0 l1 l2 (tabG op h2 h1 (Or.inl hf)).1 (tabG op h2 h1 (Or.inl hf)).2 h hw
    rw [e, e, z]
  · rw [(fit_2 w op h1 h2 hf).1, tabSum op h2 h1 (by rw [hf]; decide)] at h
    have z := num_2 w _ _ _ l0 l1 l2 (tabG op h2 h1 (Or.inr hf)).1 (tabG op h2 h1 (Or.inr hf)).2 h hw
    rw [e, e, z]
  · rw [(fit_3 w op h1 h2 hf).1, tabSum op h2 h1 (by rw [hf]; decide)] at h
    have z := num_3 w _ _ _ l0 l1 l2 (tabS op h2 h1 (Or.inl hf)) h hw
    rw [e, e, z.1]
  · rw [(fit_4 w op h1 h2 hf).1, tabSum op h2 h1 (by rw [hf]; decide)] at h
    have z := num_4 w _ _ _ l0 l1 l2 (tabS op h2 h1 (Or.inr (Or.inl hf))) h hw
    rw [e, e, z.1]
  · rw [(fit_5 w op h1 h2 hf).1, tabSum op h2 h1 (by rw [hf]; decide)] at h
    have z := num_5 w _ _ _ l0 l1 l2 (tabS op h2 h1 (Or.inr (Or.inr (Or.inl hf)))) h hw
    rw [e, e, z.1]
  · rw [(fit_6 w op h1 h2 hf).1, tabSum op h2 h1 (by rw [hf]; decide)] at h
    have z := num_6 w _ _ _ l0 l1 l2 h hw
    rw [e, e, z.1]
  · rw [(fit_7 w op h1 h2 hf).1, tabSum op h2 h1 (by rw [hf]; decide)] at h
    have z := num_7 w _ _ _ l0 l1 l2 (tab2 op h2 h1 hf) h hw
    rw [e, e, z.1]
  · rw [(fit_8 w op h1 h2 hf).1, tabSum op h2 h1 (by rw [hf]; decide)] at h
    have z := num_8 w _ _ _ l0 l1 l2 h hw
    rw [e, e, z.1]
  · rw [(fit_9 w op h1 h2 hf).1, tabSum op h2 h1 (by rw [hf]; decide)] at h
    have z := num_9 w _ _ _ l0 l1 l2 (tabS op h2 h1 (Or.inr (Or.inr (Or.inr hf)))) h hw
    rw [e, e, z.1]
  · rw [(fit_10 w op h1 h2 hf).1, tabSum op h2 h1 (by rw [hf]; decide)] at h
    have z := num_10 w _ _ _ l0 l1 l2 (tab4 op h2 h1 (Or.inl hf)) h hw
    rw [e, e, z.1]
  · rw [(fit_11 w op h1 h2 hf).1, tabSum op h2 h1 (by rw [hf]; decide)] at h
    have z := num_11 w _ _ _ l0 l1 l2 (tab4 op h2 h1 (Or.inr hf)) h hw
    rw [e, e, z.1]
theorem decP_yes (w : Nat) (hw : w < 2 ^ 32) (op : Nat) (h1 : 1 ≤ op) (h2 : op < 88) (h : okR w op) : decP w = partsV w op := by
  obtain ⟨_, hm, he⟩ := h
  have hs := sel_op w op hw h1 h2 he
  unfold decP
  rw [hs, Int.toNat_natCast]
  refine if_pos ⟨hm, ?_⟩
  rw [enc_same w op h1 h2, he]
theorem decP_no (w : Nat) (hw : w < 2 ^ 32) (h : ∀ op : Nat, 1 ≤ op → op < 88 → ¬ okR w op) : decP w = ins 0 0 0 0 w false false := by
  unfold decP
  by_cases hm : mayI (opN w) (prd w (formI (opN w))) (pA w (formI (opN w))) (pB w (formI (opN w))) (immW w (formI (opN w))) (pAq w (formI (opN w))) (pRl w (formI (opN w))) = true
  · obtain ⟨r1, r2⟩ := may_rng hm
    obtain ⟨op, ho⟩ : ∃ n : Nat, opN w = n := ⟨(opN w).toNat, by omega⟩
    rw [ho] at hm r1 r2
    have g1 : 1 ≤ op := by omega
    have g2 : op < 88 := by omega
    rw [ho, Int.toNat_natCast]
    refine if_neg fun hc => h op g1 g2 ?_
    have he := hc.2
    rw [enc_same w op g1 g2] at he
    exact ⟨low_bits w op hw g1 g2 he, hm, he⟩
  · exact if_neg fun hc => hm hc.1
theorem decR_eq {base : Nat} (w : Nat) (h : Heap) (hw : w < 2 ^ 32) : WpF S0 base k_spinnakerref05_Decode [U32 w] h fun v h' => v = decP w ∧ h' = h :=
  decR_r w h hw (decP w) (fun op h1 h2 hk => decP_yes w hw op h1 h2 hk) (decP_no w hw)
end
section
theorem form4 (op : Int) : formI op = 4 ↔ (5 ≤ op ∧ op ≤ 10) := by
  rw [← formP_eq]; unfold formP otherP; (repeat' split) <;> omega
theorem form5 (op : Int) : formI op = 5 ↔ (18 ≤ op ∧ op ≤ 21) := by
  rw [← formP_eq]; unfold formP otherP; (repeat' split) <;> omega
theorem form10 (op : Int) : formI op = 10 ↔ (op = 66 ∨ op = 77) := by
  rw [← formP_eq]; unfold formP otherP; (repeat' split) <;> omega
theorem form11 (op : Int) : formI op = 11 ↔ ((67 ≤ op ∧ op ≤ 76) ∨ (78 ≤ op ∧ op ≤ 87)) := by
  rw [← formP_eq]; unfold formP otherP; (repeat' split) <;> omega
theorem let83 (op : Int) : letB op = 83 ↔ (18 ≤ op ∧ op ≤ 21) := by
  rw [← form5]; unfold formI formL; (repeat' split) <;> omega
theorem let76 (op : Int) : letB op = 76 ↔ (op = 66 ∨ op = 77) := by
  rw [← form10]; unfold formI formL; (repeat' split) <;> omega
theorem let65 (op : Int) : letB op = 65 ↔ ((67 ≤ op ∧ op ≤ 76) ∨ (78 ≤ op ∧ op ≤ 87)) := by
  rw [← form11]; unfold formI formL; (repeat' split) <;> omega
def rdI (op : Int) : Bool := decide (11 ≤ op ∧ op ≤ 17 ∨ op = 66 ∨ op = 77 ∨ (68 ≤ op ∧ op ≤ 76) ∨ (79 ≤ op ∧ op ≤ 87))
def wrI (op : Int) : Bool := decide ((18 ≤ op ∧ op ≤ 21) ∨ (67 ≤ op ∧ op ≤ 76) ∨ (78 ≤ op ∧ op ≤ 87))
def accI (op : Int) : Bool := decide ((11 ≤ op ∧ op ≤ 21) ∨ (66 ≤ op ∧ op ≤ 87))
def wideI (op : Int) : Bool := decide (op = 14 ∨ op = 21 ∨ (77 ≤ op ∧ op ≤ 87))
theorem acc_or (op : Int) : (rdI op || wrI op) = accI op := by
  rw [Bool.eq_iff_iff, Bool.or_eq_true]; unfold rdI wrI accI; simp only [decide_eq_true_eq]; omega
theorem isaAccess_r {base : Nat} (op : Int) (h : Heap) : WpF S0 base k_isa_Access [.sc (.int .i64 op)] h fun v h' => v = .tup [.bool (rdI op), .bool (wrI op)] ∧ h' = h := by
  have hN := fun base h => isaName_r (base := base) op h
  have hi := fun base a b h => isaIn_r (base := base) op a b h
  have hF := fun base h => isaForm_r (base := base) op h
  have hn := name_nil op
  have f10 := form10 op
  have f11 := form11 op
  first | refine zu (A := f_isa_Access) rfl rfl rfl rfl ?_ | refine zB (A := f_isa_Access) rfl rfl rfl rfl ?_
  simp only [f_isa_Access, oD, cD]
  (simp only [SQ, zm, AOp.opds, step, Opd.get, zk, bin, zc, IntKind.signed, zi, zj, zl, zb, unary, ze, zd, za, zo, zr, zh, zf, zg, zp, Cp.isFull, isNil, zq, simprocAttr, SQX, V.cells, zn (hN _ _), zn (hi _ _ _ _), zn (hF _ _), zE, hn]; repeat' ((first | refine condQ_i ?_ ?_ | refine guardQ_t ?_ ?_ | refine guardQ_f ?_ ?_) <;> (intro hb; simp only [SQ, zm, AOp.opds, step, Opd.get, zk, bin, zc, IntKind.signed, zi, zj, zl, zb, unary, ze, zd, za, zo, zr, zh, zf, zg, zp, Cp.isFull, isNil, zq, simprocAttr, SQX, V.cells, hb, zn (hN _ _), zn (hi _ _ _ _), zn (hF _ _), zE, hn])))
  all_goals clear hN hi hF hn
  all_goals simp only [V.sc.injEq, V.tup.injEq, List.cons.injEq, Value.bool.injEq, and_true]
  all_goals simp only [decide_eq_true_eq, decide_eq_false_iff_not, inI_tab, f10, f11] at *
  all_goals (try refine ⟨?_, ?_⟩)
  all_goals (rw [Bool.eq_iff_iff]; simp only [rdI, wrI, accI, wideI, inI_tab, decide_eq_true_eq, Bool.false_eq_true, true_iff, false_iff, iff_true, iff_false, bne_iff_ne, ne_eq, Bool.not_eq_true', decide_eq_false_iff_not, Bool.and_eq_true]; omega)
theorem isaWide_r {base : Nat} (op : Int) (h : Heap) : WpF S0 base k_isa_Wide [.sc (.int .i64 op)] h fun v h' => v = .bool (wideI op) ∧ h' = h := by
  have hi := fun base a b h => isaIn_r (base := base) op a b h
  first | refine zu (A := f_isa_Wide) rfl rfl rfl rfl ?_ | refine zB (A := f_isa_Wide) rfl rfl rfl rfl ?_
  simp only [f_isa_Wide, oD, cD]
  (simp only [SQ, zm, AOp.opds, step, Opd.get, zk, bin, zc, IntKind.signed, zi, zj, zl, zb, unary, ze, zd, za, zo, zr, zh, zf, zg, zp, Cp.isFull, isNil, zq, simprocAttr, SQX, V.cells, zn (hi _ _ _ _)]; repeat' ((first | refine condQ_i ?_ ?_ | refine guardQ_t ?_ ?_ | refine guardQ_f ?_ ?_) <;> (intro hb; simp only [SQ, zm, AOp.opds, step, Opd.get, zk, bin, zc, IntKind.signed, zi, zj, zl, zb, unary, ze, zd, za, zo, zr, zh, zf, zg, zp, Cp.isFull, isNil, zq, simprocAttr, SQX, V.cells, hb, zn (hi _ _ _ _)])))
  all_goals clear hi
  all_goals simp only [V.sc.injEq, V.tup.injEq, List.cons.injEq, Value.bool.injEq, and_true]
  all_goals simp only [decide_eq_true_eq, decide_eq_false_iff_not, inI_tab] at *
  all_goals (try refine ⟨?_, ?_⟩)
  all_goals (rw [Bool.eq_iff_iff]; simp only [rdI, wrI, accI, wideI, inI_tab, decide_eq_true_eq, Bool.false_eq_true, true_iff, false_iff, iff_true, iff_false, bne_iff_ne, ne_eq, Bool.not_eq_true', decide_eq_false_iff_not, Bool.and_eq_true]; omega)
theorem wide3_r {base : Nat} (op : Int) (h : Heap) : WpF S0 base k_spinnakerref03_Wide [.sc (.int .i64 op)] h fun v h' => v = .bool (wideI op) ∧ h' = h := by
  first | refine zu (A := f_spinnakerref03_Wide) rfl rfl rfl rfl ?_ | refine zB (A := f_spinnakerref03_Wide) rfl rfl rfl rfl ?_
  simp only [f_spinnakerref03_Wide, oD, cD]
  (simp only [SQ, zm, AOp.opds, step, Opd.get, zk, bin, zc, IntKind.signed, zi, zj, zl, zb, unary, ze, zd, za, zo, zr, zh, zf, zg, zp, Cp.isFull, isNil, zq, simprocAttr, SQX, V.cells]; repeat' ((first | refine condQ_i ?_ ?_ | refine guardQ_t ?_ ?_ | refine guardQ_f ?_ ?_) <;> (intro hb; simp only [SQ, zm, AOp.opds, step, Opd.get, zk, bin, zc, IntKind.signed, zi, zj, zl, zb, unary, ze, zd, za, zo, zr, zh, zf, zg, zp, Cp.isFull, isNil, zq, simprocAttr, SQX, V.cells, hb])))
  all_goals simp only [V.sc.injEq, V.tup.injEq, List.cons.injEq, Value.bool.injEq, and_true]
  all_goals simp only [decide_eq_true_eq, decide_eq_false_iff_not, inI_tab] at *
  all_goals (try refine ⟨?_, ?_⟩)
  all_goals (rw [Bool.eq_iff_iff]; simp only [rdI, wrI, accI, wideI, inI_tab, decide_eq_true_eq, Bool.false_eq_true, true_iff, false_iff, iff_true, iff_false, bne_iff_ne, ne_eq, Bool.not_eq_true', decide_eq_false_iff_not, Bool.and_eq_true]; omega)
theorem access_r {base : Nat} (op : Int) (h : Heap) : WpF S0 base k_window_access [.sc (.int .i64 op)] h fun v h' => v = .bool (accI op) ∧ h' = h := by
  have hA := fun base h => isaAccess_r (base := base) op h
  have ha := acc_or op
  first | refine zu (A := f_window_access) rfl rfl rfl rfl ?_ | refine zB (A := f_window_access) rfl rfl rfl rfl ?_
  simp only [f_window_access, oD, cD]
  (simp only [SQ, zm, AOp.opds, step, Opd.get, zk, bin, zc, IntKind.signed, zi, zj, zl, zb, unary, ze, zd, za, zo, zr, zh, zf, zg, zp, Cp.isFull, isNil, zq, simprocAttr, SQX, V.cells, zn (hA _ _), List.getElem?_cons_zero, List.getElem?_cons_succ]; repeat' ((first | refine condQ_i ?_ ?_ | refine guardQ_t ?_ ?_ | refine guardQ_f ?_ ?_) <;> (intro hb; simp only [SQ, zm, AOp.opds, step, Opd.get, zk, bin, zc, IntKind.signed, zi, zj, zl, zb, unary, ze, zd, za, zo, zr, zh, zf, zg, zp, Cp.isFull, isNil, zq, simprocAttr, SQX, V.cells, hb, zn (hA _ _), List.getElem?_cons_zero, List.getElem?_cons_succ])))
  all_goals simp_all
end
section
theorem has1_r {base : Nat} (op : Int) (n : Nat) (c : UInt8) (hc : c.toNat = n) (h : Heap) : WpF S0 base k_spinnakerref03_has [.sc (.int .i64 op), .sc (.string ⟨#[c]⟩)] h fun v h' => v = .bool (decide (letB op = n)) ∧ h' = h := by
  have := has3_r (base := base) op ⟨#[c]⟩ h (by show 1 < 1000; decide)
  have e : (((⟨#[c]⟩ : ByteArray).data.toList.any fun c => letB op == c.toNat) = decide (letB op = n)) := by
    show (letB op == c.toNat || false) = _
    rw [hc, Bool.or_false, Bool.eq_iff_iff]; simp
  rw [e] at this
  exact this
theorem reader3_r {base : Nat} (op : Int) (h : Heap) : WpF S0 base k_spinnakerref03_Reader [.sc (.int .i64 op)] h fun v h' => v = .bool (rdI op) ∧ h' = h := by
  have h1 := fun base h => has1_r (base := base) op 76 76 rfl h
  have h2 := fun base h => has1_r (base := base) op 65 65 rfl h
  have e1 := let76 op
  have e2 := let65 op
  first | refine zu (A := f_spinnakerref03_Reader) rfl rfl rfl rfl ?_ | refine zB (A := f_spinnakerref03_Reader) rfl rfl rfl rfl ?_
  simp only [f_spinnakerref03_Reader, oD, cD]
  (simp only [SQ, zm, AOp.opds, step, Opd.get, zk, bin, zc, IntKind.signed, zi, zj, zl, zb, unary, ze, zd, za, zo, zr, zh, zf, zg, zp, Cp.isFull, isNil, zq, simprocAttr, SQX, V.cells, zn (h1 _ _), zn (h2 _ _)]; repeat' ((first | refine condQ_i ?_ ?_ | refine guardQ_t ?_ ?_ | refine guardQ_f ?_ ?_) <;> (intro hb; simp only [SQ, zm, AOp.opds, step, Opd.get, zk, bin, zc, IntKind.signed, zi, zj, zl, zb, unary, ze, zd, za, zo, zr, zh, zf, zg, zp, Cp.isFull, isNil, zq, simprocAttr, SQX, V.cells, hb, zn (h1 _ _), zn (h2 _ _)])))
  all_goals clear h1 h2
  all_goals simp only [V.sc.injEq, V.tup.injEq, List.cons.injEq, Value.bool.injEq, and_true]
  all_goals simp only [decide_eq_true_eq, decide_eq_false_iff_not, inI_tab, Bool.not_eq_true', Bool.not_eq_false', e1, e2] at *
  all_goals (try refine ⟨?_, ?_⟩)
  all_goals (rw [Bool.eq_iff_iff]; simp only [rdI, wrI, accI, wideI, inI_tab, decide_eq_true_eq, Bool.false_eq_true, true_iff, false_iff, iff_true, iff_false, bne_iff_ne, ne_eq, Bool.not_eq_true', Bool.not_eq_false', decide_eq_false_iff_not, decide_eq_true_eq, Bool.and_eq_true]; omega)
theorem writer3_r {base : Nat} (op : Int) (h : Heap) : WpF S0 base k_spinnakerref03_Writer [.sc (.int .i64 op)] h fun v h' => v = .bool (wrI op) ∧ h' = h := by
  have h1 := fun base h => has1_r (base := base) op 83 83 rfl h
  have h2 := fun base h => has1_r (base := base) op 65 65 rfl h
  have e1 := let83 op
  have e2 := let65 op
  first | refine zu (A := f_spinnakerref03_Writer) rfl rfl rfl rfl ?_ | refine zB (A := f_spinnakerref03_Writer) rfl rfl rfl rfl ?_
  simp only [f_spinnakerref03_Writer, oD, cD]
  (simp only [SQ, zm, AOp.opds, step, Opd.get, zk, bin, zc, IntKind.signed, zi, zj, zl, zb, unary, ze, zd, za, zo, zr, zh, zf, zg, zp, Cp.isFull, isNil, zq, simprocAttr, SQX, V.cells, zn (h1 _ _), zn (h2 _ _)]; repeat' ((first | refine condQ_i ?_ ?_ | refine guardQ_t ?_ ?_ | refine guardQ_f ?_ ?_) <;> (intro hb; simp only [SQ, zm, AOp.opds, step, Opd.get, zk, bin, zc, IntKind.signed, zi, zj, zl, zb, unary, ze, zd, za, zo, zr, zh, zf, zg, zp, Cp.isFull, isNil, zq, simprocAttr, SQX, V.cells, hb, zn (h1 _ _), zn (h2 _ _)])))
  all_goals clear h1 h2
  all_goals simp only [V.sc.injEq, V.tup.injEq, List.cons.injEq, Value.bool.injEq, and_true]
  all_goals simp only [decide_eq_true_eq, decide_eq_false_iff_not, inI_tab, Bool.not_eq_true', Bool.not_eq_false', e1, e2] at *
  all_goals (try refine ⟨?_, ?_⟩)
  all_goals (rw [Bool.eq_iff_iff]; simp only [rdI, wrI, accI, wideI, inI_tab, decide_eq_true_eq, Bool.false_eq_true, true_iff, false_iff, iff_true, iff_false, bne_iff_ne, ne_eq, Bool.not_eq_true', Bool.not_eq_false', decide_eq_false_iff_not, decide_eq_true_eq, Bool.and_eq_true]; omega)
theorem access19_r {base : Nat} (op : Int) (h : Heap) : WpF S0 base k_spinnakerref19_Access [.sc (.int .i64 op)] h fun v h' => v = .bool (accI op) ∧ h' = h := by
  have h1 := fun base h => reader3_r (base := base) op h
  have h2 := fun base h => writer3_r (base := base) op h
  have ha := acc_or op
  first | refine zu (A := f_spinnakerref19_Access) rfl rfl rfl rfl ?_ | refine zB (A := f_spinnakerref19_Access) rfl rfl rfl rfl ?_
  simp only [f_spinnakerref19_Access, oD, cD]
  (simp only [SQ, zm, AOp.opds, step, Opd.get, zk, bin, zc, IntKind.signed, zi, zj, zl, zb, unary, ze, zd, za, zo, zr, zh, zf, zg, zp, Cp.isFull, isNil, zq, simprocAttr, SQX, V.cells, zn (h1 _ _), zn (h2 _ _)]; repeat' ((first | refine condQ_i ?_ ?_ | refine guardQ_t ?_ ?_ | refine guardQ_f ?_ ?_) <;> (intro hb; simp only [SQ, zm, AOp.opds, step, Opd.get, zk, bin, zc, IntKind.signed, zi, zj, zl, zb, unary, ze, zd, za, zo, zr, zh, zf, zg, zp, Cp.isFull, isNil, zq, simprocAttr, SQX, V.cells, hb, zn (h1 _ _), zn (h2 _ _)])))
  all_goals simp_all
end
section
def codeI (n : Nat) (pc : Int) : Option Nat := if pc < 65536 ∨ 65536 + 4 * (n : Int) ≤ pc ∨ pc % 4 ≠ 0 then none else some ((pc - 65536) / 4).toNat
theorem tmod4 {pc : Int} (h : 65536 ≤ pc) : pc.tmod 4 = pc % 4 := Int.tmod_eq_emod_of_nonneg (by omega)
theorem tdiv4 {pc : Int} (h : 0 ≤ pc) : pc.tdiv 4 = pc / 4 := Int.tdiv_eq_ediv_of_nonneg h
theorem place_r {base : Nat} (n : Nat) (pc : Int) (h : Heap) (hn : n ≤ 500) : WpF S0 base k_image_place [.sc (.int .i64 pc), .sc (.int .i64 65536), .sc (.int .i64 4), V.int n] h fun v h' => v = .tup [V.int ((codeI n pc).getD 0 : Nat), .bool (codeI n pc).isSome] ∧ h' = h := by
  have w1 : IntKind.i64.wrap (4 * (n : Int)) = 4 * n := wrap_i64 (by omega) (by omega)
  have w2 : IntKind.i64.wrap (65536 + 4 * (n : Int)) = 65536 + 4 * n := wrap_i64 (by omega) (by omega)
  have hz : ¬ ((4 : Int) = 0) := by decide
  first | refine zu (A := f_image_place) rfl rfl rfl rfl ?_ | refine zB (A := f_image_place) rfl rfl rfl rfl ?_
  simp only [f_image_place, oD, cD]
  by_cases hk : pc < 65536 ∨ 65536 + 4 * (n : Int) ≤ pc ∨ pc % 4 ≠ 0
  · rw [show codeI n pc = none from if_pos hk]
    (simp only [SQ, zm, AOp.opds, step, Opd.get, zk, bin, zc, IntKind.signed, zi, zj, zl, zb, unary, ze, zd, za, zo, zr, zh, zf, zg, zp, Cp.isFull, isNil, zq, simprocAttr, SQX, V.cells, w1, w2, hz]; repeat' ((first | refine condQ_i ?_ ?_ | refine guardQ_t ?_ ?_ | refine guardQ_f ?_ ?_) <;> (intro hb; simp only [SQ, zm, AOp.opds, step, Opd.get, zk, bin, zc, IntKind.signed, zi, zj, zl, zb, unary, ze, zd, za, zo, zr, zh, zf, zg, zp, Cp.isFull, isNil, zq, simprocAttr, SQX, V.cells, hb, w1, w2, hz])))
    all_goals (simp at *)
    all_goals (rw [tmod4 (by omega)] at *; omega)
  · rw [show codeI n pc = some ((pc - 65536) / 4).toNat from if_neg hk]
    have w4 : IntKind.i64.wrap (pc - 65536) = pc - 65536 := wrap_i64 (by omega) (by omega)
    have w5 : IntKind.i64.wrap ((pc - 65536).tdiv 4) = (((pc - 65536) / 4).toNat : Int) := by
      rw [tdiv4 (by omega), wrap_i64 (by omega) (by omega)]; omega
    have m4 : pc.tmod 4 = 0 := by rw [tmod4 (by omega)]; omega
    have c1 : ¬ pc < 65536 := by omega
    have c2 : ¬ (65536 + 4 * (n : Int) ≤ pc) := by omega
    simp only [SQ, SQB, zm, AOp.opds, step, Opd.get, zk, bin, zc, IntKind.signed, zi, zj, zl, zb, unary, ze, zd, za, zo, zr, zh, zf, zg, zp, Cp.isFull, isNil, zq, simprocAttr, SQX, V.cells, w1, w2, w4, w5, m4, c1, c2, hz, Option.isSome_some]
theorem code8_r {base : Nat} (ra rb rc : List (List V)) (pc : Int) (h : Heap) (hn : ra.length ≤ 500) : WpF S0 base k_spinnakerref08_Code [.agg [.slc .any 1 ra, .slc .any 1 rb, .slc .any 1 rc], .sc (.int .i64 pc)] h fun v h' => v = .sc (.int .i64 (match codeI ra.length pc with | none => -1 | some k => (k : Int))) ∧ h' = h := by
  have w1 : IntKind.i64.wrap (4 * (ra.length : Int)) = 4 * ra.length := wrap_i64 (by omega) (by omega)
  have w2 : IntKind.i64.wrap (65536 + 4 * (ra.length : Int)) = 65536 + 4 * ra.length := wrap_i64 (by omega) (by omega)
  have w3 : IntKind.i64.wrap (65536 + 4 * (ra.length : Int) - 4) = 65536 + 4 * ra.length - 4 := wrap_i64 (by omega) (by omega)
  have hz : ¬ ((4 : Int) = 0) := by decide
  first | refine zu (A := f_spinnakerref08_Code) rfl rfl rfl rfl ?_ | refine zB (A := f_spinnakerref08_Code) rfl rfl rfl rfl ?_
  simp only [f_spinnakerref08_Code, oD, cD]
  by_cases hk : pc < 65536 ∨ 65536 + 4 * (ra.length : Int) ≤ pc ∨ pc % 4 ≠ 0
  · rw [show codeI ra.length pc = none from if_pos hk]
    (simp only [SQ, zm, AOp.opds, step, Opd.get, zk, bin, zc, IntKind.signed, zi, zj, zl, zb, unary, ze, zd, za, zo, zr, zh, zf, zg, zp, Cp.isFull, isNil, zq, simprocAttr, SQX, V.cells, ldE, w1, w2, w3, hz, Nat.le_refl, List.take_length]; repeat' ((first | refine condQ_i ?_ ?_ | refine guardQ_t ?_ ?_ | refine guardQ_f ?_ ?_) <;> (intro hb; simp only [SQ, zm, AOp.opds, step, Opd.get, zk, bin, zc, IntKind.signed, zi, zj, zl, zb, unary, ze, zd, za, zo, zr, zh, zf, zg, zp, Cp.isFull, isNil, zq, simprocAttr, SQX, V.cells, hb, ldE, w1, w2, w3, hz, Nat.le_refl, List.take_length])))
    all_goals (simp at *)
    all_goals (try (rw [tmod4 (by omega)] at *; omega))
  · rw [show codeI ra.length pc = some ((pc - 65536) / 4).toNat from if_neg hk]
    have w4 : IntKind.i64.wrap (pc - 65536) = pc - 65536 := wrap_i64 (by omega) (by omega)
    have w5 : IntKind.i64.wrap ((pc - 65536).tdiv 4) = (((pc - 65536) / 4).toNat : Int) := by
      rw [tdiv4 (by omega), wrap_i64 (by omega) (by omega)]; omega
    have m4 : pc.tmod 4 = 0 := by rw [tmod4 (by omega)]; omega
    have c1 : ¬ pc < 65536 := by omega
    have c2 : ¬ (65536 + 4 * (ra.length : Int) - 4 < pc) := by omega
    simp only [SQ, SQB, zm, AOp.opds, step, Opd.get, zk, bin, zc, IntKind.signed, zi, zj, zl, zb, unary, ze, zd, za, zo, zr, zh, zf, zg, zp, Cp.isFull, isNil, zq, simprocAttr, SQX, V.cells, ldE, w1, w2, w3, w4, w5, m4, c1, c2, hz, Nat.le_refl, List.take_length]
structure Ins where
  op : Int
  rd : Int
  a : Int
  b : Int
  imm : Int
  aq : Bool
  rl : Bool
abbrev Ins.v (i : Ins) : V := ins i.op i.rd i.a i.b i.imm i.aq i.rl
def insP (w : Nat) : Ins := if mayI (opN w) (prd w (formI (opN w))) (pA w (formI (opN w))) (pB w (formI (opN w))) (immW w (formI (opN w))) (pAq w (formI (opN w))) (pRl w (formI (opN w))) = true ∧ encP (opN w).toNat (prd w (formI (opN w))).toNat (pA w (formI (opN w))).toNat (pB w (formI (opN w))).toNat (uN (immW w (formI (opN w))) % 4294967296) (pAq w (formI (opN w))) (pRl w (formI (opN w))) = w then ⟨opN w, prd w (formI (opN w)), pA w (formI (opN w)), pB w (formI (opN w)), immW w (formI (opN w)), pAq w (formI (opN w)), pRl w (formI (opN w))⟩ else ⟨0, 0, 0, 0, w, false, false⟩
theorem decP_ins (w : Nat) : decP w = (insP w).v := by
  unfold decP insP
  split <;> rfl
def atI (ws : List Nat) (pc : Int) : Ins := match codeI ws.length pc with
  | none => ⟨0, 0, 0, 0, 0, false, false⟩
  | some k => insP (ws.getD k 0)
abbrev wrd (ws : List Nat) : List (List V) := ws.map fun w => [U32 w]
theorem code_lt {n : Nat} {pc : Int} {k : Nat} (h : codeI n pc = some k) : k < n := by
  unfold codeI at h
  split at h
  · cases h
  · injection h with h
    omega
theorem at_wrd {ws : List Nat} {k : Nat} (h : k < ws.length) : (wrd ws)[k]? = some [U32 (ws.getD k 0)] := by
  rw [List.getElem?_map, List.getElem?_eq_getElem h]
  simp [List.getD, List.getElem?_eq_getElem h]
theorem get_lt {ws : List Nat} (hw : ∀ w ∈ ws, w < 2 ^ 32) {k : Nat} (h : k < ws.length) : ws.getD k 0 < 2 ^ 32 := by
  have : ws.getD k 0 = ws[k] := by simp [List.getD, List.getElem?_eq_getElem h]
  rw [this]
  exact hw _ (List.getElem_mem h)
set_option maxHeartbeats 1000000 in
theorem imgP_r {base : Nat} (ws : List Nat) (rb rc : List (List V)) (pc : Int) (h : Heap) (hn : ws.length ≤ 500) (hw : ∀ w ∈ ws, w < 2 ^ 32) : WpF S0 base k_image_Fetch [.agg [.slc .any 1 (wrd ws), .slc .any 1 rb, .slc .any 1 rc], .sc (.int .i64 pc)] h fun v h' => v = .tup [(atI ws pc).v, .bool (codeI ws.length pc).isSome] ∧ h' = h := by
  have hP := fun base h => place_r (base := base) ws.length pc h hn
  have ll : (wrd ws).length = ws.length := by simp
  have z7 : fillParts [.sc (.int .i64 0), .sc (.int .i64 0), .sc (.int .i64 0), .sc (.int .i64 0), .sc (.int .i64 0), .sc (.bool false), .sc (.bool false)] [] = some [.sc (.int .i64 0), .sc (.int .i64 0), .sc (.int .i64 0), .sc (.int .i64 0), .sc (.int .i64 0), .sc (.bool false), .sc (.bool false)] := rfl
  unfold atI
  first | refine zu (A := f_image_Fetch) rfl rfl rfl rfl ?_ | refine zB (A := f_image_Fetch) rfl rfl rfl rfl ?_
  simp only [f_image_Fetch, oD, cD]
  cases hc : codeI ws.length pc with
  | none =>
    rw [hc] at hP
    simp only [SQ, SQB, zm, AOp.opds, step, Opd.get, zk, bin, zc, IntKind.signed, zi, zj, zb, unary, ze, zd, za, zo, zr, zh, zf, zg, zp, Cp.isFull, isNil, zq, simprocAttr, SQX, V.cells, ldE, ll, zn (hP _ _), getParts, z7, st_new, ld_new, boxTake, Nat.le_refl, List.take_length, List.take_succ_cons, List.take_zero, Option.isSome_none, Option.getD_none]
  | some k =>
    have hk := code_lt hc
    have hD := fun base h => decP_r (base := base) (ws.getD k 0) h (get_lt hw hk)
    rw [hc] at hP
    rw [decP_ins] at hD
    simp only [SQ, SQB, zm, AOp.opds, step, Opd.get, zk, bin, zc, IntKind.signed, zi, zj, zb, unary, ze, zd, za, zo, zr, zh, zf, zg, zp, Cp.isFull, isNil, zq, simprocAttr, SQX, V.cells, ldE, ll, zn (hP _ _), zn (hD _ _), at_wrd hk, getParts, z7, st_new, ld_new, boxTake, Nat.le_refl, List.take_length, List.take_succ_cons, List.take_zero, Option.isSome_some, Option.getD_some]
set_option maxHeartbeats 1000000 in
theorem imgR_r {base : Nat} (ws : List Nat) (rb rc : List (List V)) (pc : Int) (h : Heap) (hn : ws.length ≤ 500) (hw : ∀ w ∈ ws, w < 2 ^ 32) : WpF S0 base k_spinnakerref08_Fetch [.agg [.slc .any 1 (wrd ws), .slc .any 1 rb, .slc .any 1 rc], .sc (.int .i64 pc)] h fun v h' => v = .tup [(atI ws pc).v, .bool (codeI ws.length pc).isSome] ∧ h' = h := by
  have ll : (wrd ws).length = ws.length := by simp
  have hP := fun base h => code8_r (base := base) (wrd ws) rb rc pc h (by rw [ll]; exact hn)
  have z7 : fillParts [.sc (.int .i64 0), .sc (.int .i64 0), .sc (.int .i64 0), .sc (.int .i64 0), .sc (.int .i64 0), .sc (.bool false), .sc (.bool false)] [] = some [.sc (.int .i64 0), .sc (.int .i64 0), .sc (.int .i64 0), .sc (.int .i64 0), .sc (.int .i64 0), .sc (.bool false), .sc (.bool false)] := rfl
  unfold atI
  rw [ll] at hP
  first | refine zu (A := f_spinnakerref08_Fetch) rfl rfl rfl rfl ?_ | refine zB (A := f_spinnakerref08_Fetch) rfl rfl rfl rfl ?_
  simp only [f_spinnakerref08_Fetch, oD, cD]
  cases hc : codeI ws.length pc with
  | none =>
    rw [hc] at hP
    simp only [SQ, SQB, zm, AOp.opds, step, Opd.get, zk, bin, zc, IntKind.signed, zi, zj, zb, unary, ze, zd, za, zo, zr, zh, zf, zg, zp, Cp.isFull, isNil, zq, simprocAttr, SQX, V.cells, ldE, ll, zn (hP _ _), getParts, z7, st_new, ld_new, boxTake, Nat.le_refl, List.take_length, List.take_succ_cons, List.take_zero, Option.isSome_none, show (-1 : Int) < 0 by decide]
  | some k =>
    have hk := code_lt hc
    have hD := fun base h => decR_eq (base := base) (ws.getD k 0) h (get_lt hw hk)
    rw [hc] at hP
    rw [decP_ins] at hD
    simp only [SQ, SQB, zm, AOp.opds, step, Opd.get, zk, bin, zc, IntKind.signed, zi, zj, zb, unary, ze, zd, za, zo, zr, zh, zf, zg, zp, Cp.isFull, isNil, zq, simprocAttr, SQX, V.cells, ldE, ll, zn (hP _ _), zn (hD _ _), at_wrd hk, getParts, z7, st_new, ld_new, boxTake, Nat.le_refl, List.take_length, List.take_succ_cons, List.take_zero, Option.isSome_some, show ¬ ((k : Int) < 0) by omega]
end
section
def badI (op : Int) : Int := if op = 0 then 4 else if op = 65 then 7 else if accI op && !wideI op then 6 else 0
def nxtI (op imm pc guess : Int) : Int := if op = 3 then IntKind.i64.wrap (pc + imm) else if op = 4 then guess else if (5 ≤ op ∧ op ≤ 10) ∧ guess ≠ 0 then IntKind.i64.wrap (pc + imm) else IntKind.i64.wrap (pc + 4)
def valI (op imm pc : Int) : Int := if op = 1 then IntKind.i64.wrap (4096 * imm) else if op = 2 then IntKind.i64.wrap (pc + IntKind.i64.wrap (4096 * imm)) else if op = 3 ∨ op = 4 then IntKind.i64.wrap (pc + 4) else 0
def rdyI (op : Int) : Bool := decide (1 ≤ op ∧ op ≤ 4)
def donI (op : Int) : Bool := decide ((1 ≤ op ∧ op ≤ 3) ∨ op = 63)
abbrev sci (n : Int) : V := .sc (.int .i64 n)
abbrev scb (b : Bool) : V := .sc (.bool b)
abbrev entC (pc op rd a b imm : Int) (aq rl : Bool) (next bad val : Int) (rdy don : Bool) : List V := [sci pc, sci op, sci rd, sci a, sci b, sci imm, scb aq, scb rl, sci next, sci 0, scb false, sci bad, sci val, scb rdy, scb don, scb false, sci (-1), sci 0]
abbrev entV (i : Ins) (pc guess bad : Int) : V := .agg (entC pc i.op i.rd i.a i.b i.imm i.aq i.rl (nxtI i.op i.imm pc guess) bad (valI i.op i.imm pc) (rdyI i.op) (donI i.op))
theorem ent_ext (pc op rd a b imm : Int) (aq rl : Bool) {n1 n2 bad v1 v2 : Int} {r1 r2 d1 d2 : Bool} (h1 : n1 = n2) (h2 : v1 = v2) (h3 : r1 = r2) (h4 : d1 = d2) : V.agg (entC pc op rd a b imm aq rl n1 bad v1 r1 d1) = V.agg (entC pc op rd a b imm aq rl n2 bad v2 r2 d2) := by
  subst h1 h2 h3 h4
  rfl
theorem bad_of {op : Int} {is : Bool} (h : (if is = true then badI op else 5) ≠ 0) (h0 : is = false → op = 0) : op = 0 ∨ op = 65 ∨ (11 ≤ op ∧ op ≤ 21) ∨ (66 ≤ op ∧ op ≤ 87) := by
  cases is with
  | false => exact .inl (h0 rfl)
  | true =>
    simp only [if_true] at h
    unfold badI accI wideI at h
    by_cases c : 11 ≤ op ∧ op ≤ 21 ∨ 66 ≤ op ∧ op ≤ 87
    · omega
    · simp [c] at h
      omega
theorem bad_no {op : Int} {is : Bool} (h : (if is = true then badI op else 5) = 0) : is = true ∧ op ≠ 0 ∧ op ≠ 65 ∧ (accI op && !wideI op) = false := by
  cases is with
  | false => simp at h
  | true =>
    simp only [if_true] at h
    unfold badI at h
    refine ⟨rfl, ?_, ?_, ?_⟩
    · intro q; rw [if_pos q] at h; cases h
    · intro q; rw [if_neg (by omega), if_pos q] at h; cases h
    · cases hc : (accI op && !wideI op) with
      | false => rfl
      | true =>
        rw [hc] at h
        (repeat' split at h) <;> simp_all
theorem bad_r {base : Nat} (op rd a b imm : Int) (aq rl is : Bool) (h : Heap) : WpF S0 base k_window_bad [ins op rd a b imm aq rl, .sc (.bool is)] h fun v h' => v = .sc (.int .i64 (if is then badI op else 5)) ∧ h' = h := by
  have h1 := fun base h => access_r (base := base) op h
  have h2 := fun base h => isaWide_r (base := base) op h
  first | refine zu (A := f_window_bad) rfl rfl rfl rfl ?_ | refine zB (A := f_window_bad) rfl rfl rfl rfl ?_
  simp only [f_window_bad, oD, cD]
  (simp only [SQ, zm, AOp.opds, step, Opd.get, zk, bin, zc, IntKind.signed, zi, zj, zl, zb, unary, ze, zd, za, zo, zr, zh, zf, zg, zp, Cp.isFull, isNil, zq, simprocAttr, SQX, V.cells, zn (h1 _ _), zn (h2 _ _), Nat.le_refl]; repeat' ((first | refine condQ_i ?_ ?_ | refine guardQ_t ?_ ?_ | refine guardQ_f ?_ ?_) <;> (intro hb; simp only [SQ, zm, AOp.opds, step, Opd.get, zk, bin, zc, IntKind.signed, zi, zj, zl, zb, unary, ze, zd, za, zo, zr, zh, zf, zg, zp, Cp.isFull, isNil, zq, simprocAttr, SQX, V.cells, hb, zn (h1 _ _), zn (h2 _ _), Nat.le_refl])))
  all_goals (simp [badI] at *; try simp_all)
theorem upper_r {base : Nat} (n : Int) (h : Heap) : WpF S0 base k_alu_Upper [.sc (.int .i64 n)] h fun v h' => v = .sc (.int .i64 (IntKind.i64.wrap (4096 * n))) ∧ h' = h := by
  have e : IntKind.i64.wrap (n * 2 ^ 12) = IntKind.i64.wrap (4096 * n) := by congr 1; omega
  have e3 : n * 4096 = 4096 * n := Int.mul_comm _ _
  have e2 : min 12 IntKind.i64.bits = 12 := rfl
  first | refine zu (A := f_alu_Upper) rfl rfl rfl rfl ?_ | refine zB (A := f_alu_Upper) rfl rfl rfl rfl ?_
  simp only [f_alu_Upper, oD, cD]
  simp only [SQ, SQB, zm, AOp.opds, step, Opd.get, zk, bin, zc, IntKind.signed, zi, zj, zl, zb, unary, ze, zd, za, zo, zr, zh, zf, zg, zp, Cp.isFull, isNil, zq, simprocAttr, SQX, V.cells, e, e2]
  try rw [e3]
theorem ld_cell {hh : Heap} {t : TypeId} {cs : List V} {k : Nat} : zl (hh ++ [.box t cs]) none (.ptr hh.length k) = cs[k]? := by
  simp [zl, zb]
theorem st_cellO {base : Nat} {hh : Heap} {t : TypeId} {cs : List V} {k : Nat} {x : Value} (h2 : k < cs.length) : storeV base (hh ++ [.box t cs]) 1 (.ptr hh.length k) (.sc x) = some (hh ++ [.box t (cs.set k (.sc x))]) := by
  have e1 : (hh ++ [Obj.box t cs])[hh.length]? = some (.box t cs) := by simp
  have e2 : ∀ z : Obj, (hh ++ [Obj.box t cs]).set hh.length z = hh ++ [z] := fun z => by simp
  unfold storeV
  rw [if_pos ⟨rfl, rfl⟩]
  simp only [e1, e2]
  rw [if_pos ⟨by omega, by unfold mayStore; simp [refsLts, refsLt, V.cells]⟩, show (V.sc x).cells = [.sc x] from rfl, put_one h2]
theorem value_r {base : Nat} (hh : Heap) (t : TypeId) (v0 v1 v2 v3 v4 v5 v6 v7 v8 v9 v10 v11 v12 v13 v14 v15 v16 v17 : V) (n : Int) : WpF S0 base k_window_Entry_value [.ptr hh.length 0, .sc (.int .i64 n)] (hh ++ [.box t [v0, v1, v2, v3, v4, v5, v6, v7, v8, v9, v10, v11, v12, v13, v14, v15, v16, v17]]) fun v h' => v = .tup [] ∧ h' = hh ++ [.box t [v0, v1, v2, v3, v4, v5, v6, v7, v8, v9, v10, v11, sci n, scb true, scb true, v15, v16, v17]] := by
  first | refine zu (A := f_window_Entry_value) rfl rfl rfl rfl ?_ | refine zB (A := f_window_Entry_value) rfl rfl rfl rfl ?_
  simp only [f_window_Entry_value, oD, cD]
  simp only [SQ, SQB, zm, AOp.opds, step, Opd.get, zk, bin, zc, IntKind.signed, zi, zj, zb, unary, ze, zd, za, zo, zr, zh, zf, zg, zp, Cp.isFull, isNil, zq, simprocAttr, SQX, V.cells, st_cellO, List.set_cons_zero, List.set_cons_succ, Nat.lt_add_one]
  first | done | (rw [List.take_of_length_le (by simp)])
set_option maxHeartbeats 2000000 in
theorem fetchP_r {base : Nat} (ws : List Nat) (rb rc : List (List V)) (pc guess : Int) (h : Heap) (hn : ws.length ≤ 500) (hw : ∀ w ∈ ws, w < 2 ^ 32) : WpF S0 base k_window_Fetch [.agg [.slc .any 1 (wrd ws), .slc .any 1 rb, .slc .any 1 rc], .sc (.int .i64 pc), .sc (.int .i64 guess)] h fun v h' => v = entV (atI ws pc) pc guess (if (codeI ws.length pc).isSome then badI (atI ws pc).op else 5) ∧ h' = h := by
  have hI := fun base h => imgP_r (base := base) ws rb rc pc h hn hw
  have h0 : (codeI ws.length pc).isSome = false → (atI ws pc).op = 0 := fun q => by
    unfold atI
    cases hc : codeI ws.length pc with
    | none => rfl
    | some k => rw [hc] at q; cases q
  revert hI h0
  generalize (codeI ws.length pc).isSome = is
  generalize atI ws pc = i
  obtain ⟨op, rd, a, b, imm, aq, rl⟩ := i
  intro hI h0
  have hB := fun base h => bad_r (base := base) op rd a b imm aq rl is h
  have hU := fun base h => upper_r (base := base) imm h
  have hBr := fun base h => isaBranch_r (base := base) op h
  have e2 : fillParts [.sc (.int .i64 0), .sc (.int .i64 0)] [(0, 1, .sc (.int .i64 (-1)))] = some [sci (-1), sci 0] := rfl
  have e18 : ∀ next bad : Int, fillParts [.sc (.int .i64 0), .sc (.int .i64 0), .sc (.int .i64 0), .sc (.int .i64 0), .sc (.int .i64 0), .sc (.int .i64 0), .sc (.bool false), .sc (.bool false), .sc (.int .i64 0), .sc (.int .i64 0), .sc (.bool false), .sc (.int .i64 0), .sc (.int .i64 0), .sc (.bool false), .sc (.bool false), .sc (.bool false), .sc (.int .i64 0), .sc (.int .i64 0)] [(0, 1, sci pc), (1, 7, ins op rd a b imm aq rl), (8, 1, sci next), (11, 1, sci bad), (16, 2, .agg [sci (-1), sci 0])] = some (entC pc op rd a b imm aq rl next bad 0 false false) := fun _ _ => rfl
  first | refine zu (A := f_window_Fetch) rfl rfl rfl rfl ?_ | refine zB (A := f_window_Fetch) rfl rfl rfl rfl ?_
  simp only [f_window_Fetch, oD, cD]
  (simp only [SQ, zm, AOp.opds, step, Opd.get, zk, bin, zc, IntKind.signed, zi, zj, zb, unary, ze, zd, za, zo, zr, zh, zf, zg, zp, Cp.isFull, isNil, zq, simprocAttr, SQX, V.cells, ldE, zn (hI _ _), zn (hB _ _), zn (hU _ _), zn (value_r _ 34 _ _ _ _ _ _ _ _ _ _ _ _ _ _ _ _ _ _ _), zn (hBr _ _), getParts, e2, e18, st_new, st_cell, ld_new, ld_cell, st_prev, ld_prev, len_le, take_two, Nat.le_refl, List.take_length, List.take_succ_cons, List.take_zero, List.set_cons_zero, List.set_cons_succ]; repeat' ((first | refine condQ_i ?_ ?_ | refine guardQ_t ?_ ?_ | refine guardQ_f ?_ ?_) <;> (intro hb; simp only [SQ, zm, AOp.opds, step, Opd.get, zk, bin, zc, IntKind.signed, zi, zj, zb, unary, ze, zd, za, zo, zr, zh, zf, zg, zp, Cp.isFull, isNil, zq, simprocAttr, SQX, V.cells, hb, ldE, zn (hI _ _), zn (hB _ _), zn (hU _ _), zn (value_r _ 34 _ _ _ _ _ _ _ _ _ _ _ _ _ _ _ _ _ _ _), zn (hBr _ _), getParts, e2, e18, st_new, st_cell, ld_new, ld_cell, st_prev, ld_prev, len_le, take_two, Nat.le_refl, List.take_length, List.take_succ_cons, List.take_zero, List.set_cons_zero, List.set_cons_succ])))
  all_goals clear hI hB hU hBr e2 e18
  all_goals simp only [decide_eq_true_eq, decide_eq_false_iff_not, Bool.not_eq_true', Bool.not_eq_false', inI_tab] at *
  all_goals (refine ent_ext _ _ _ _ _ _ _ _ ?_ ?_ ?_ ?_)
  all_goals (try dsimp only)
  all_goals (try (have hq := bad_of (by assumption) h0))
  all_goals (first
    | (rw [Bool.eq_iff_iff]; simp only [rdyI, donI, decide_eq_true_eq, Bool.false_eq_true, true_iff, false_iff]; omega)
    | (unfold nxtI; (repeat' split) <;> first | rfl | omega)
    | (unfold valI; (repeat' split) <;> first | rfl | omega)
    | trace_state)
end
section
theorem ent_ext2 (pc op rd a b imm : Int) (aq rl : Bool) {n1 n2 b1 b2 v1 v2 : Int} {r1 r2 d1 d2 : Bool} (h1 : n1 = n2) (hb : b1 = b2) (h2 : v1 = v2) (h3 : r1 = r2) (h4 : d1 = d2) : V.agg (entC pc op rd a b imm aq rl n1 b1 v1 r1 d1) = V.agg (entC pc op rd a b imm aq rl n2 b2 v2 r2 d2) := by
  subst h1 h2 h3 h4 hb
  rfl
theorem badI_eq (op : Int) : badI op = if op = 0 then 4 else if op = 65 then 7 else if ((11 ≤ op ∧ op ≤ 21) ∨ (66 ≤ op ∧ op ≤ 87)) ∧ ¬ (op = 14 ∨ op = 21 ∨ (77 ≤ op ∧ op ≤ 87)) then 6 else 0 := by
  unfold badI accI wideI
  simp only [Bool.and_eq_true, decide_eq_true_eq, Bool.not_eq_true', decide_eq_false_iff_not]
set_option maxHeartbeats 2000000 in
theorem fetchR_r {base : Nat} (ws : List Nat) (rb rc : List (List V)) (pc guess : Int) (h : Heap) (hn : ws.length ≤ 500) (hw : ∀ w ∈ ws, w < 2 ^ 32) : WpF S0 base k_spinnakerref19_Fetch [.agg [.slc .any 1 (wrd ws), .slc .any 1 rb, .slc .any 1 rc], .sc (.int .i64 pc), .sc (.int .i64 guess)] h fun v h' => v = entV (atI ws pc) pc guess (if (codeI ws.length pc).isSome then badI (atI ws pc).op else 5) ∧ h' = h := by
  have hI := fun base h => imgR_r (base := base) ws rb rc pc h hn hw
  have h0 : (codeI ws.length pc).isSome = false → (atI ws pc).op = 0 := fun q => by
    unfold atI
    cases hc : codeI ws.length pc with
    | none => rfl
    | some k => rw [hc] at q; cases q
  revert hI h0
  generalize (codeI ws.length pc).isSome = is
  generalize atI ws pc = i
  obtain ⟨op, rd, a, b, imm, aq, rl⟩ := i
  intro hI h0
  have hA := fun base h => access19_r (base := base) op h
  have hW := fun base h => wide3_r (base := base) op h
  have hF := fun base h => form3_r (base := base) op h
  have f4 := form4 op
  have e2 : fillParts [.sc (.int .i64 0), .sc (.int .i64 0)] [(0, 1, .sc (.int .i64 (-1)))] = some [sci (-1), sci 0] := rfl
  have e18 : ∀ next : Int, fillParts [.sc (.int .i64 0), .sc (.int .i64 0), .sc (.int .i64 0), .sc (.int .i64 0), .sc (.int .i64 0), .sc (.int .i64 0), .sc (.bool false), .sc (.bool false), .sc (.int .i64 0), .sc (.int .i64 0), .sc (.bool false), .sc (.int .i64 0), .sc (.int .i64 0), .sc (.bool false), .sc (.bool false), .sc (.bool false), .sc (.int .i64 0), .sc (.int .i64 0)] [(0, 1, sci pc), (1, 7, ins op rd a b imm aq rl), (8, 1, sci next), (16, 2, .agg [sci (-1), sci 0])] = some (entC pc op rd a b imm aq rl next 0 0 false false) := fun _ => rfl
  first | refine zu (A := f_spinnakerref19_Fetch) rfl rfl rfl rfl ?_ | refine zB (A := f_spinnakerref19_Fetch) rfl rfl rfl rfl ?_
  simp only [f_spinnakerref19_Fetch, oD, cD]
  cases is with
  | false =>
    have hop : op = 0 := h0 rfl
    subst hop
    simp only [SQ, SQB, zm, AOp.opds, step, Opd.get, zk, bin, zc, IntKind.signed, zi, zj, zb, unary, ze, zd, za, zo, zr, zh, zf, zg, zp, Cp.isFull, isNil, zq, simprocAttr, SQX, V.cells, ldE, zn (hI _ _), getParts, e2, e18, st_new, st_cell, ld_new, ld_cell, st_prev, ld_prev, len_le, take_two, Nat.le_refl, List.take_length, List.take_succ_cons, List.take_zero, List.set_cons_zero, List.set_cons_succ]
    refine ent_ext2 _ _ _ _ _ _ _ _ ?_ ?_ ?_ ?_ ?_
    · rfl
    · rfl
    · rfl
    · rfl
    · rfl
  | true =>
    (simp only [SQ, zm, AOp.opds, step, Opd.get, zk, bin, zc, IntKind.signed, zi, zj, zb, unary, ze, zd, za, zo, zr, zh, zf, zg, zp, Cp.isFull, isNil, zq, simprocAttr, SQX, V.cells, ldE, zn (hI _ _), zn (hA _ _), zn (hW _ _), zn (hF _ _), f4, getParts, e2, e18, st_new, st_cell, ld_new, ld_cell, st_prev, ld_prev, len_le, take_two, Nat.le_refl, List.take_length, List.take_succ_cons, List.take_zero, List.set_cons_zero, List.set_cons_succ]; repeat' ((first | refine condQ_i ?_ ?_ | refine guardQ_t ?_ ?_ | refine guardQ_f ?_ ?_) <;> (intro hb; simp only [SQ, zm, AOp.opds, step, Opd.get, zk, bin, zc, IntKind.signed, zi, zj, zb, unary, ze, zd, za, zo, zr, zh, zf, zg, zp, Cp.isFull, isNil, zq, simprocAttr, SQX, V.cells, hb, ldE, zn (hI _ _), zn (hA _ _), zn (hW _ _), zn (hF _ _), f4, getParts, e2, e18, st_new, st_cell, ld_new, ld_cell, st_prev, ld_prev, len_le, take_two, Nat.le_refl, List.take_length, List.take_succ_cons, List.take_zero, List.set_cons_zero, List.set_cons_succ])))
    all_goals clear hI hA hW hF
    all_goals simp only [decide_eq_true_eq, decide_eq_false_iff_not, Bool.not_eq_true', Bool.not_eq_false'] at *
    all_goals (refine ent_ext2 _ _ _ _ _ _ _ _ ?_ ?_ ?_ ?_ ?_)
    all_goals (try dsimp only)
    all_goals (try simp only [accI, wideI, decide_eq_true_eq, decide_eq_false_iff_not] at *)
    all_goals (first
      | (rw [Bool.eq_iff_iff]; simp only [rdyI, donI, decide_eq_true_eq, Bool.false_eq_true, true_iff, false_iff]; omega)
      | (unfold nxtI; (repeat' split) <;> first | rfl | omega)
      | (unfold valI; (repeat' split) <;> first | rfl | omega)
      | (rw [badI_eq]; (repeat' split) <;> first | rfl | omega)
      | trace_state)
end
section
set_option maxRecDepth 100000 in
theorem awakeF (base : Nat) : evCall Xt Ft 120 base k_spinnakerlaw19_awake [] [] = some (.sc (.bool true), []) := by kernel_rfl
theorem large19_r {base : Nat} (ra rb rc : List (List V)) (h : Heap) : WpF S0 base k_spinnakerlaw19_large [.agg [.slc .any 1 ra, .slc .any 1 rb, .slc .any 1 rc]] h fun v h' => v = .bool (decide (500 < ra.length) || decide (500 < rb.length)) ∧ h' = h := by
  first | refine zu (A := f_spinnakerlaw19_large) rfl rfl rfl rfl ?_ | refine zB (A := f_spinnakerlaw19_large) rfl rfl rfl rfl ?_
  simp only [f_spinnakerlaw19_large, oD, cD]
  (simp only [SQ, zm, AOp.opds, step, Opd.get, zk, bin, zc, IntKind.signed, zi, zj, zl, zb, unary, ze, zd, za, zo, zr, zh, zf, zg, zp, Cp.isFull, isNil, zq, simprocAttr, SQX, V.cells, ldE, Nat.le_refl, List.take_length]; repeat' ((first | refine condQ_i ?_ ?_ | refine guardQ_t ?_ ?_ | refine guardQ_f ?_ ?_) <;> (intro hb; simp only [SQ, zm, AOp.opds, step, Opd.get, zk, bin, zc, IntKind.signed, zi, zj, zl, zb, unary, ze, zd, za, zo, zr, zh, zf, zg, zp, Cp.isFull, isNil, zq, simprocAttr, SQX, V.cells, hb, ldE, Nat.le_refl, List.take_length])))
  all_goals simp only [decide_eq_true_eq, decide_eq_false_iff_not] at *
  · rw [show decide (500 < ra.length) = false by simp; omega, Bool.false_or]
    congr 2
    rw [decide_eq_decide]; omega
  · rw [show decide (500 < ra.length) = true by simp; omega, Bool.true_or]
theorem same19_r {base : Nat} (pc op rd a b imm : Int) (aq rl : Bool) (n1 b1 v1 : Int) (r1 d1 : Bool) (h : Heap) : WpF S0 base k_spinnakerlaw19_same [.agg (entC pc op rd a b imm aq rl n1 b1 v1 r1 d1), .agg (entC pc op rd a b imm aq rl n1 b1 v1 r1 d1)] h fun v h' => v = .bool true ∧ h' = h := by
  have e : eqLeaves (entC pc op rd a b imm aq rl n1 b1 v1 r1 d1) (entC pc op rd a b imm aq rl n1 b1 v1 r1 d1) [(0, .i), (1, .i), (2, .i), (3, .i), (4, .i), (5, .i), (6, .b), (7, .b), (8, .i), (9, .i), (10, .b), (11, .i), (12, .i), (13, .b), (14, .b), (15, .b), (16, .i), (17, .i)] = some true := by
    simp [eqLeaves, eqCell]
  first | refine zu (A := f_spinnakerlaw19_same) rfl rfl rfl rfl ?_ | refine zB (A := f_spinnakerlaw19_same) rfl rfl rfl rfl ?_
  simp only [f_spinnakerlaw19_same, oD, cD]
  simp only [SQ, SQB, zm, AOp.opds, step, Opd.get, zk, bin, zc, IntKind.signed, zi, zj, zl, zb, unary, ze, zd, za, zo, zr, zh, zf, zg, zp, Cp.isFull, isNil, zq, simprocAttr, SQX, V.cells, ldE, e, Nat.le_refl, List.take_length, List.take_succ_cons, List.take_zero]
theorem windowFetches_law (ws : List Nat) (rb rc : List (List V)) (pc guess : Int) (hw : ∀ w ∈ ws, w < 2 ^ 32) : WpF S0 0 k_spinnakerlaw19_WindowFetches [.agg [.slc .any 1 (wrd ws), .slc .any 1 rb, .slc .any 1 rc], .sc (.int .i64 pc), .sc (.int .i64 guess)] [] fun v _ => v = .bool true := by
  have aw : ∀ base, WpF S0 base k_spinnakerlaw19_awake [] [] fun v h' => v = .bool true ∧ h' = [] := fun base => ⟨120, _, _, awakeF base, rfl, rfl⟩
  have hL := fun base => large19_r (base := base) (wrd ws) rb rc []
  have ll : (wrd ws).length = ws.length := by simp
  rw [ll] at hL
  first | refine zu (A := f_spinnakerlaw19_WindowFetches) rfl rfl rfl rfl ?_ | refine zB (A := f_spinnakerlaw19_WindowFetches) rfl rfl rfl rfl ?_
  simp only [f_spinnakerlaw19_WindowFetches, oD, cD]
  cases hl : (decide (500 < ws.length) || decide (500 < rb.length)) with
  | true =>
    rw [hl] at hL
    simp only [SQ, SQB, zm, AOp.opds, step, Opd.get, zk, bin, zc, IntKind.signed, zi, zj, zl, zb, unary, ze, zd, za, zo, zr, zh, zf, zg, zp, Cp.isFull, isNil, zq, simprocAttr, SQX, V.cells, ldE, zn (hL _), zn (aw _), Nat.le_refl, List.take_length, List.take_succ_cons, List.take_zero]
  | false =>
    have hn : ws.length ≤ 500 := by
      simp at hl; omega
    have h1 := fun base => fetchP_r (base := base) ws rb rc pc guess [] hn hw
    have h2 := fun base => fetchR_r (base := base) ws rb rc pc guess [] hn hw
    have h3 := fun base => same19_r (base := base) pc (atI ws pc).op (atI ws pc).rd (atI ws pc).a (atI ws pc).b (atI ws pc).imm (atI ws pc).aq (atI ws pc).rl (nxtI (atI ws pc).op (atI ws pc).imm pc guess) (if (codeI ws.length pc).isSome then badI (atI ws pc).op else 5) (valI (atI ws pc).op (atI ws pc).imm pc) (rdyI (atI ws pc).op) (donI (atI ws pc).op) []
    rw [hl] at hL
    simp only [SQ, SQB, zm, AOp.opds, step, Opd.get, zk, bin, zc, IntKind.signed, zi, zj, zl, zb, unary, ze, zd, za, zo, zr, zh, zf, zg, zp, Cp.isFull, isNil, zq, simprocAttr, SQX, V.cells, ldE, zn (hL _), zn (h1 _), zn (h2 _), zn (h3 _), zn (aw _), Nat.le_refl, List.take_length, List.take_succ_cons, List.take_zero]
end
section
section
variable {P : Program} {W : World} {r : Go.Reach} {base : Nat} {t : TypeId} {v : Value}
theorem cells_slice {e : TypeId} (ht : P.underlying t = some (.slice e)) (h : Value.okWide P W r base t v) : v.cells.toList = [v] := by
  unfold Value.okWide Cell.okWide Cell.ok at h
  simp only [ht] at h
  cases v <;> simp_all [Value.cells]
theorem cells_int {k : IntKind} (ht : P.underlying t = some (.int k)) (h : Value.okWide P W r base t v) : v.cells.toList = [v] := by
  unfold Value.okWide Cell.okWide Cell.ok at h
  simp only [ht] at h
  cases v <;> simp_all [Value.cells]
theorem cells_string (ht : P.underlying t = some .string) (h : Value.okWide P W r base t v) : v.cells.toList = [v] := by
  unfold Value.okWide Cell.okWide Cell.ok at h
  simp only [ht] at h
  cases v <;> simp_all [Value.cells]
end
end
section
def ShpF (P : Program) (S : TypeId → List V → Prop) : List Field → List V → Prop
  | [], vs => vs = []
  | f :: fs, vs => ∃ a b, vs = a ++ b ∧ a.length = P.cellsOf f.type ∧ S f.type a ∧ ShpF P S fs b
def Shp (P : Program) : Nat → TypeId → List V → Prop
  | 0, _, _ => False
  | n + 1, t, vs => match P.underlying t with
    | some (.int k) => ∃ m : Int, k.min ≤ m ∧ m ≤ k.max ∧ vs = [.sc (.int k m)]
    | some .bool => ∃ b, vs = [.sc (.bool b)]
    | some .string => ∃ s : ByteArray, s.size ≤ Go.maxLen ∧ vs = [.sc (.string s)]
    | some (.slice e) => ∃ rows : List (List V), vs = [.slc .any (P.cellsOf e) rows] ∧ rows.length ≤ Go.maxLen ∧ ∀ r ∈ rows, Shp P n e r
    | some (.struct fs) => ShpF P (Shp P n) fs.toList vs
    | _ => False
section
variable {P : Program} {n : Nat} {t : TypeId} {vs : List V}
theorem Shp.int {k : IntKind} (ht : P.underlying t = some (.int k)) (h : Shp P n t vs) : ∃ m : Int, k.min ≤ m ∧ m ≤ k.max ∧ vs = [.sc (.int k m)] := by
  cases n with
  | zero => exact h.elim
  | succ n => simpa only [Shp, ht] using h
theorem Shp.bool (ht : P.underlying t = some .bool) (h : Shp P n t vs) : ∃ b, vs = [.sc (.bool b)] := by
  cases n with
  | zero => exact h.elim
  | succ n => simpa only [Shp, ht] using h
theorem Shp.str (ht : P.underlying t = some .string) (h : Shp P n t vs) : ∃ s : ByteArray, s.size ≤ Go.maxLen ∧ vs = [.sc (.string s)] := by
  cases n with
  | zero => exact h.elim
  | succ n => simpa only [Shp, ht] using h
theorem Shp.slc {e : TypeId} (ht : P.underlying t = some (.slice e)) (h : Shp P n t vs) : ∃ (rows : List (List V)) (k : Nat), n = k + 1 ∧ vs = [.slc .any (P.cellsOf e) rows] ∧ rows.length ≤ Go.maxLen ∧ ∀ r ∈ rows, Shp P k e r := by
  cases n with
  | zero => exact h.elim
  | succ n =>
    simp only [Shp, ht] at h
    obtain ⟨rows, h1, h2, h3⟩ := h
    exact ⟨rows, n, rfl, h1, h2, h3⟩
theorem Shp.struct {fs : Array Field} (ht : P.underlying t = some (.struct fs)) (h : Shp P n t vs) : ∃ k, n = k + 1 ∧ ShpF P (Shp P k) fs.toList vs := by
  cases n with
  | zero => exact h.elim
  | succ n => exact ⟨n, rfl, by simpa only [Shp, ht] using h⟩
end
theorem rows_map {α : Type} {f : α → List V} {Q : α → Prop} : ∀ {rows : List (List V)}, (∀ r ∈ rows, ∃ a, r = f a ∧ Q a) → ∃ l : List α, rows = l.map f ∧ ∀ a ∈ l, Q a
  | [], _ => ⟨[], rfl, by simp⟩
  | r :: rows, h => by
    obtain ⟨l, rfl, hl⟩ := rows_map (fun r hr => h r (List.mem_cons_of_mem _ hr))
    obtain ⟨a, rfl, ha⟩ := h r (List.mem_cons_self ..)
    exact ⟨a :: l, rfl, fun b hb => by
      rcases List.mem_cons.1 hb with rfl | hb
      · exact ha
      · exact hl b hb⟩
def fieldsAt (P : Program) (tys : List TypeId) : List Field → Nat → Option Nat
  | [], o => some o
  | f :: fs, o => if f.offset = o ∧ tys.contains f.type = true then fieldsAt P tys fs (o + P.cellsOf f.type) else none
def chkTy (P : Program) (tys : List TypeId) : Bool := tys.all fun t => match P.underlying t with
  | some (.int _) | some .bool | some .string => P.cellsOf t == 1
  | some (.slice e) => P.cellsOf t == 1 && tys.contains e && decide (0 < P.cellsOf e)
  | some (.struct fs) => fieldsAt P tys fs.toList 0 == some (P.cellsOf t)
  | _ => false
section
variable {H : Type} {enc : TypeId × Value → H} {P : Program} {W : World} {base : Nat} {spare : Nat → Bool} {held : Bool} {tys : List TypeId}
theorem fields_shp {n : Nat} (ih : ∀ t cs x, t ∈ tys → DataW.trod enc P W base spare held n t cs = some x → Reads W (Shp P n t) (P.cellsOf t) cs) :
    ∀ (fs : List Field) (o : Nat) (cs : List Value), (∀ f ∈ fs, ∃ y, DataW.trod enc P W base spare held n f.type ((cs.drop f.offset).take (P.cellsOf f.type)) = some y) → fieldsAt P tys fs o = some cs.length →
      ∃ vs, vs.length = cs.length - o ∧ o ≤ cs.length ∧ vs.all ground = true ∧ ShpF P (Shp P n) fs vs ∧ RepL (start W) vs (cs.drop o)
  | [], o, cs, _, ho => by
    simp only [fieldsAt, Option.some.injEq] at ho
    subst ho
    exact ⟨[], by simp, Nat.le_refl _, rfl, rfl, by simp [RepL]⟩
  | f :: fs, o, cs, hf, ho => by
    simp only [fieldsAt] at ho
    split at ho
    · rename_i hc
      obtain ⟨rfl, hm⟩ := hc
      obtain ⟨y, hy⟩ := hf f (by simp)
      obtain ⟨b, b1, b2, b3, b4, b5⟩ := fields_shp ih fs _ cs (fun g hg => hf g (by simp [hg])) ho
      obtain ⟨a, a1, a2, a3, a4⟩ := ih _ _ _ (by simpa using hm) hy
      refine ⟨a ++ b, by simp only [List.length_append]; omega, by omega, by simp [a2, b3], ⟨a, b, rfl, a1, a3, b4⟩, ?_⟩
      have := a4.append b5
      rwa [← List.drop_drop, List.take_append_drop] at this
    · simp at ho
theorem trod_shp (hc : chkTy P tys = true) : ∀ (fuel : Nat) (t : TypeId) (cs : List Value) (x : DataW H × List MemPlace), t ∈ tys → DataW.trod enc P W base spare held fuel t cs = some x → Reads W (Shp P fuel t) (P.cellsOf t) cs
  | 0, t, cs, x, _, h => by simp [DataW.trod] at h
  | n + 1, t, cs, x, ht, h => by
    have hk := List.all_eq_true.1 hc t ht
    cases hu : P.underlying t with
    | none => rw [hu] at hk; simp at hk
    | some d =>
      rw [hu] at hk
      cases d with
      | int k =>
        simp only [beq_iff_eq] at hk
        obtain ⟨m, h1, h2, h3⟩ := trod_intV hu h
        exact ⟨[.sc (.int k m)], hk.symm, rfl, by simp only [Shp, hu]; exact ⟨m, h1, h2, rfl⟩, h3⟩
      | bool =>
        simp only [beq_iff_eq] at hk
        obtain ⟨b, rfl, _⟩ := DataW.trod_bool hu h
        exact ⟨[.sc (.bool b)], hk.symm, rfl, by simp only [Shp, hu]; exact ⟨b, rfl⟩, by simp [RepL, RepV, Value.oneCell']⟩
      | string =>
        simp only [beq_iff_eq] at hk
        obtain ⟨s, h1, h2⟩ := trod_strV hu h
        exact ⟨[.sc (.string s)], hk.symm, rfl, by simp only [Shp, hu]; exact ⟨s, h1, rfl⟩, h2⟩
      | slice e =>
        simp only [Bool.and_eq_true, beq_iff_eq, decide_eq_true_eq] at hk
        obtain ⟨⟨h1, h2⟩, h3⟩ := hk
        obtain ⟨rows, r1, r2, r3⟩ := trod_slcN (Good := Shp P n e) hu h3 (fun k cs y hkn hy _ => by
          obtain rfl : n = k := by omega
          exact trod_shp hc n e cs y (by simpa using h2) hy) h
        exact ⟨[.slc .any (P.cellsOf e) rows], h1.symm, rfl, by simp only [Shp, hu]; exact ⟨rows, rfl, r2, fun r hr => (r3 r hr).2⟩, r1⟩
      | struct fs =>
        simp only [beq_iff_eq] at hk
        obtain ⟨xs, m, hm, _, hl, hx, hf⟩ := DataW.trod_struct hu h
        obtain rfl : n = m := by omega
        obtain ⟨vs, v1, _, v2, v3, v4⟩ := fields_shp (trod_shp hc n) fs.toList 0 cs (fun f hf' => by
          obtain ⟨i, hi, rfl⟩ := List.getElem_of_mem hf'
          have hi' : i < fs.size := by simpa using hi
          have := hf i fs[i] (by simp [hi'])
          rw [List.getElem?_eq_getElem (by omega)] at this
          exact ⟨_, by simpa using this⟩) (by rw [hk, hl])
        exact ⟨vs, by omega, v2, by simp only [Shp, hu]; exact v3, by simpa using v4⟩
      | _ => simp at hk
def Each {α β : Type} (R : α → β → Prop) : List α → List β → Prop
  | [], [] => True
  | a :: as, b :: bs => R a b ∧ Each R as bs
  | _, _ => False
def ArgShp (P : Program) (t : TypeId) (v : V) : Prop := ∃ n vs, Shp P n t vs ∧ match P.underlying t with
  | some (.struct _) => v = .agg vs
  | _ => vs = [v]
theorem args_shp (hc : chkTy P tys = true) {r : Go.Reach} {ob : Nat} : ∀ {ts : List TypeId} {vs : List Value} {ds : List (DataW H)} {ps : List MemPlace}, (∀ t ∈ ts, t ∈ tys) → DataW.TrodAll enc P W base spare held ts vs ds ps →
    (∀ (j : Nat) t v, ts[j]? = some t → vs[j]? = some v → Value.okWide P W r ob t v) → ∃ as : List V, RepL (start W) as vs ∧ Each (ArgShp P) ts as ∧ ds.length = ts.length
  | [], vs, ds, ps, _, h, _ => by
    obtain ⟨rfl, rfl, rfl⟩ := ChangeShapes.trodAll_nil h
    exact ⟨[], by simp [RepL], trivial, rfl⟩
  | t :: ts, vs, ds, ps, hin, h, hv => by
    obtain ⟨v, vs', d, ds', p, q, rfl, rfl, rfl, h0, h1⟩ := ChangeShapes.trodAll_cons h
    obtain ⟨as, a1, a2, a3⟩ := args_shp hc (fun t ht => hin t (by simp [ht])) h1 (fun j t' v' hj hv' => hv (j + 1) t' v' (by simpa using hj) (by simpa using hv'))
    obtain ⟨n, h0⟩ := h0
    obtain ⟨xs, x1, x2, x3, x4⟩ := trod_shp hc n t _ _ (hin t (by simp)) h0
    have k0 := hv 0 t v rfl rfl
    have hk := List.all_eq_true.1 hc t (hin t (by simp))
    cases hu : P.underlying t with
    | none => rw [hu] at hk; simp at hk
    | some e =>
      by_cases hst : ∃ fs, e = .struct fs
      · obtain ⟨fs, rfl⟩ := hst
        unfold Value.okWide at k0
        rw [hu] at k0
        obtain ⟨cs, rfl, _, _⟩ := k0
        refine ⟨.agg xs :: as, ?_, ⟨⟨n, xs, x3, by rw [hu]⟩, a2⟩, by simp [a3]⟩
        simp only [RepL, RepV]
        exact ⟨_, _, rfl, ⟨cs, rfl, x4⟩, a1⟩
      · rw [hu] at hk
        have h1c : P.cellsOf t = 1 := by
          cases e <;> simp_all
        obtain ⟨y, rfl⟩ : ∃ y, xs = [y] := by
          match xs, x1 with
          | [y], _ => exact ⟨y, rfl⟩
          | [], h => simp at h; omega
          | _ :: _ :: _, h => simp at h; omega
        have hcells : v.cells.toList = [v] := by
          unfold Value.okWide Cell.okWide Cell.ok at k0
          cases e <;> simp only [hu] at k0 <;> cases v <;> simp_all [Value.cells]
        rw [hcells] at x4
        refine ⟨y :: as, ?_, ⟨⟨n, [y], x3, ?_⟩, a2⟩, by simp [a3]⟩
        · have := RepL.append x4 a1
          simpa using this
        · rw [hu]
          cases e <;> first | rfl | exact absurd ⟨_, rfl⟩ hst
end
end
end Go.Am
