/- The abstract machine and what is proved in it, part 15. -/
import Derived.Test.YtjjgpjlfnendaaaDoorAm14
set_option linter.unusedVariables false
set_option linter.unusedSectionVars false
set_option linter.unusedSimpArgs false
namespace Go.Am
section
def freshN (ms : List (ByteArray × Int)) (U : List ByteArray) : Nat := (U.filter fun s => decide (getI ms s ≤ 0)).length
theorem fresh_le {ms ms' : List (ByteArray × Int)} (h : ∀ t, 0 < getI ms t → 0 < getI ms' t) : ∀ U : List ByteArray, freshN ms' U ≤ freshN ms U
  | [] => by simp [freshN]
  | u :: U => by
    have ih := fresh_le h U
    unfold freshN at ih ⊢
    simp only [List.filter_cons]
    by_cases a : getI ms' u ≤ 0
    · have b : getI ms u ≤ 0 := by
        rcases Int.lt_or_le 0 (getI ms u) with q | q
        · have := h u q; omega
        · exact q
      simp [a, b]; exact ih
    · simp only [a, decide_false, Bool.false_eq_true, if_false]
      split
      · simp only [List.length_cons]; omega
      · exact ih
theorem fresh_lt {ms ms' : List (ByteArray × Int)} (h : ∀ t, 0 < getI ms t → 0 < getI ms' t) {s : ByteArray} (h1 : getI ms s ≤ 0) (h2 : 0 < getI ms' s) : ∀ {U : List ByteArray}, s ∈ U → freshN ms' U < freshN ms U
  | [], hs => by simp at hs
  | u :: U, hs => by
    unfold freshN
    simp only [List.filter_cons]
    rcases List.mem_cons.1 hs with rfl | hs
    · have := fresh_le h U
      unfold freshN at this
      simp [h1, show ¬ getI ms' s ≤ 0 by omega]
      omega
    · have ih := fresh_lt h h1 h2 hs
      unfold freshN at ih
      by_cases a : getI ms' u ≤ 0
      · have b : getI ms u ≤ 0 := by
          rcases Int.lt_or_le 0 (getI ms u) with q | q
          · have := h u q; omega
          · exact q
        simp [a, b]; exact ih
      · simp only [a, decide_false, Bool.false_eq_true, if_false]
        split
        · simp only [List.length_cons]; omega
        · exact ih
def PostR (p : List Nd) (to : ByteArray) (ms ms' : List (ByteArray × Int)) (l : List ByteArray) (r : Bool) : Prop :=
  (∀ t, 0 < getI ms t → 0 < getI ms' t) ∧ (r = true → ∃ s ∈ l, Rch p s to) ∧
  (r = false → (∀ s ∈ l, s ≠ to ∧ 0 < getI ms' s) ∧ ∀ t, 0 < getI ms' t → ¬ 0 < getI ms t → t ≠ to ∧ ∀ u ∈ callsN (procN p t) [], 0 < getI ms' u)
theorem PostR.nil {p : List Nd} {to : ByteArray} {ms : List (ByteArray × Int)} : PostR p to ms ms [] false := ⟨fun _ h => h, by simp, fun _ => ⟨by simp, fun t h1 h2 => absurd h1 h2⟩⟩
theorem PostR.snoc {p : List Nd} {to : ByteArray} {m1 m2 m3 : List (ByteArray × Int)} {l : List ByteArray} {s : ByteArray} {r : Bool} (h1 : PostR p to m1 m2 l false) (h2 : PostR p to m2 m3 [s] r) : PostR p to m1 m3 (l ++ [s]) r := by
  obtain ⟨a1, _, a3⟩ := h1
  obtain ⟨b1, b2, b3⟩ := h2
  obtain ⟨a3, a4⟩ := a3 rfl
  refine ⟨fun t h => b1 t (a1 t h), fun hr => ?_, fun hr => ?_⟩
  · obtain ⟨q, hq, hr⟩ := b2 hr
    exact ⟨q, by simp at hq ⊢; exact .inr hq, hr⟩
  · obtain ⟨b3, b4⟩ := b3 hr
    refine ⟨fun q hq => ?_, fun t h3 h4 => ?_⟩
    · rcases List.mem_append.1 hq with hq | hq
      · exact ⟨(a3 q hq).1, b1 _ (a3 q hq).2⟩
      · exact b3 q hq
    · by_cases h5 : 0 < getI m2 t
      · obtain ⟨c1, c2⟩ := a4 t h5 h4
        exact ⟨c1, fun u hu => b1 u (c2 u hu)⟩
      · exact b4 t h3 h5
theorem PostR.one {p : List Nd} {to s : ByteArray} {m1 m2 : List (ByteArray × Int)} {r : Bool} (hne : s ≠ to) (hs : ¬ 0 < getI m1 s) (h2 : PostR p to (putI m1 s 1) m2 (callsN (procN p s) []) r) : PostR p to m1 m2 [s] r := by
  obtain ⟨b1, b2, b3⟩ := h2
  have hp : ∀ t, 0 < getI m1 t → 0 < getI (putI m1 s 1) t := fun t h => by rw [get_put]; split <;> omega
  have hps : 0 < getI (putI m1 s 1) s := by rw [get_put, if_pos rfl]; omega
  refine ⟨fun t h => b1 t (hp t h), fun hr => ?_, fun hr => ?_⟩
  · obtain ⟨q, hq, hr⟩ := b2 hr
    exact ⟨s, by simp, .step hq hr⟩
  · obtain ⟨b3, b4⟩ := b3 hr
    refine ⟨fun q hq => ?_, fun t h3 h4 => ?_⟩
    · rw [List.mem_singleton.1 hq]
      exact ⟨hne, b1 s hps⟩
    · by_cases h5 : t = s
      · subst h5
        exact ⟨hne, fun u hu => (b3 u hu).2⟩
      · exact b4 t h3 (by rw [get_put, if_neg h5]; exact h4)
theorem PostR.done {p : List Nd} {to : ByteArray} {m : List (ByteArray × Int)} {l : List ByteArray} {r : Bool} (h : PostR p to [] m l r) : r = true ↔ ∃ s ∈ l, Rch p s to := by
  obtain ⟨_, b2, b3⟩ := h
  refine ⟨b2, fun ⟨s, hs, hr⟩ => ?_⟩
  cases r with
  | true => rfl
  | false =>
    exfalso
    obtain ⟨b3, b4⟩ := b3 rfl
    have key : ∀ a b, Rch p a b → b = to → 0 < getI m a → False := by
      intro a b hab
      induction hab with
      | refl a => exact fun e h => (b4 a h (by simp [getI])).1 e
      | step h1 _ ih => exact fun e h => ih e ((b4 _ h (by simp [getI])).2 _ h1)
    exact key s to hr rfl (b3 s hs).2
theorem indexFS_r {α : Type} {base : Nat} (St : α → Heap) (N : Nat) (hN : ∀ a, (St a).length = N) (g : FuncId) (caps : List V) (l : List ByteArray) (v : V) (hl : ∀ a, SlN (St a) v l) (Inv : Nat → α → Prop) (Fin : α → Prop)
    (hstep : ∀ (base i : Nat) (hi : i < l.length) (a : α), Inv i a → WpF S0 base g (.sc (.string l[i]) :: caps) (St a) fun r h' => ∃ a', h' = St a' ∧ ((r = .sc (.bool true) ∧ Fin a') ∨ (r = .sc (.bool false) ∧ Inv (i + 1) a'))) (a0 : α) (h0 : Inv 0 a0) :
    WpF S0 base k_slices_IndexFuncstringstring [v, .fn (.func g) [] caps] (St a0) fun r h' => ∃ (n : Int) (a' : α), r = .sc (.int .i64 n) ∧ h' = St a' ∧ ((0 ≤ n ∧ Fin a') ∨ (n < 0 ∧ Inv l.length a')) := by
  have ll := (hl a0).len
  have lt := (hl a0).1
  have htk : ∀ a, (St a).take N = St a := fun a => List.take_of_length_le (by rw [hN]; exact Nat.le_refl _)
  first | refine zu (A := f_slices_IndexFuncstringstring) rfl rfl rfl rfl ?_ | refine zB (A := f_slices_IndexFuncstringstring) rfl rfl rfl rfl ?_
  simp only [f_slices_IndexFuncstringstring, oD, cD]
  simp only [SQ, SQB, zm, AOp.opds, step, Opd.get, bin, zc, IntKind.signed, zi, zj, zl, zb, unary, ze, zd, za, zo, zr, zh, zf, zg, zp, Cp.isFull, isNil, zq, simprocAttr, SQX, V.cells, ll]
  refine WpC_loopI (fun k en h' => ∃ i : Nat, k = l.length - i ∧ i ≤ l.length ∧ en 8 = V.int i ∧ en 7 = V.int l.length ∧ en 0 = v ∧ en 1 = .fn (.func g) [] caps ∧ ∃ a, h' = St a ∧ Inv i a) l.length ⟨0, rfl, Nat.zero_le _, rfl, rfl, rfl, rfl, a0, rfl, h0⟩ ?_
  rintro k en h' ⟨i, rfl, hi, e8, e7, e0, e1, a, rfl, hinv⟩
  by_cases h1 : i < l.length
  · obtain ⟨c, ha, hb⟩ := (hl a).get h1
    simp only [SQ, SQB, zm, AOp.opds, step, Opd.get, bin, zc, IntKind.signed, zj, zb, unary, ze, zd, za, zo, zr, zh, zf, zg, zp, Cp.isFull, isNil, zq, simprocAttr, SQX, V.cells, e8, e7, e0, e1, h1, ha, hb, callD_some]
    refine (hstep _ i h1 a hinv).mono ?_
    rintro r h' ⟨a', rfl, ⟨rfl, hf⟩ | ⟨rfl, hi'⟩⟩
    · simp only [SQ, SQB, zm, AOp.opds, step, Opd.get, zk, bin, zc, IntKind.signed, zi, zj, zl, zb, unary, ze, zd, za, zo, zr, zh, zf, zg, zp, Cp.isFull, isNil, zq, simprocAttr, SQX, V.cells, hN, htk]
      exact ⟨_, a', rfl, rfl, .inl ⟨by omega, hf⟩⟩
    · simp only [SQ, SQB, zm, AOp.opds, step, Opd.get, zk, bin, zc, IntKind.signed, zi, zj, zl, zb, unary, ze, zd, za, zo, zr, zh, zf, zg, zp, Cp.isFull, isNil, zq, simprocAttr, SQX, V.cells, e8, e7, e0, e1]
      exact ⟨l.length - (i + 1), by omega, i + 1, rfl, by omega, by rw [wrap_i64 (by omega) (by omega)]; rfl, a', rfl, hi'⟩
  · simp only [SQ, SQB, zm, AOp.opds, step, Opd.get, bin, zc, IntKind.signed, zj, zb, unary, ze, zd, za, zo, zr, zh, zf, zg, zp, Cp.isFull, isNil, zq, simprocAttr, SQX, V.cells, e8, e7, e0, e1, h1, hN, htk]
    have : i = l.length := by omega
    subst this
    exact ⟨_, a, rfl, rfl, .inr ⟨by decide, hinv⟩⟩
structure RcH (H : Heap) (c d2 m : Nat) (mp : List (ByteArray × V)) (pc : List V) : Prop where
  hc : H[c]? = some (.box 49 pc)
  hp : H[d2]? = some (.mmap (mp.map mEntV))
  hdm : d2 ≠ m
  hm : m < H.length
theorem put_set {H : Heap} {m : Nat} {a b : List (Value × V)} : (H.set m (.mmap a)).set m (.mmap b) = H.set m (.mmap b) := List.set_set ..
def ReachOk (p : List Nd) (to : ByteArray) (U : List ByteArray) (n : Nat) : Prop := ∀ (base c d1 d2 m : Nat) (H : Heap) (mp : List (ByteArray × V)) (x : Nd) (lv : V) (e : Er) (ms : List (ByteArray × Int)) (l : List ByteArray) (v : V),
  RcH H c d2 m mp (ckC x lv d1 d2 e) → ProcM p mp → H[m]? = some (.mmap (ms.map mEnt)) → freshN ms U ≤ n → SlN H v l → (∀ s ∈ l, s ∈ U) →
  WpF S0 base k_check_checker_reaches [.ptr c 0, v, .sc (.string to), .mp m] H fun r h' => ∃ (b : Bool) (ms' : List (ByteArray × Int)), r = .sc (.bool b) ∧ h' = H.set m (.mmap (ms'.map mEnt)) ∧ PostR p to ms ms' l b
theorem SlN.set {H : Heap} {v : V} {l : List ByteArray} {m : Nat} {a b : List (Value × V)} (h : SlN H v l) (hm : H[m]? = some (.mmap a)) : SlN (H.set m (.mmap b)) v l := by
  refine ⟨h.1, ?_⟩
  rcases h.2 with h | h | ⟨c, e, t, h1, h2⟩
  · exact .inl h
  · exact .inr (.inl h)
  · refine .inr (.inr ⟨c, e, t, h1, ?_⟩)
    have : m ≠ c := by rintro rfl; rw [hm] at h2; simp at h2
    rw [List.getElem?_set_ne this, h2]
theorem SlN.app {H E : Heap} {v : V} {l : List ByteArray} (h : SlN H v l) : SlN (H ++ E) v l := by
  refine ⟨h.1, ?_⟩
  rcases h.2 with h | h | ⟨c, e, t, h1, h2⟩
  · exact .inl h
  · exact .inr (.inl h)
  · exact .inr (.inr ⟨c, e, t, h1, ext_mono h2⟩)
abbrev rb1 (c : Nat) : Obj := .box 40 [.ptr c 0]
abbrev rb2 (m : Nat) : Obj := .box 45 [.mp m]
section
variable {H : Heap} {c d2 m : Nat} {mp : List (ByteArray × V)} {pc : List V} {ms : List (ByteArray × Int)}
def rcS (H : Heap) (c m : Nat) (ms : List (ByteArray × Int)) : Heap := H.set m (.mmap (ms.map mEnt)) ++ [rb1 c, rb2 m]
theorem rcS_len : (rcS H c m ms).length = H.length + 2 := by simp [rcS]
theorem rcS_0 : (rcS H c m ms)[H.length]? = some (rb1 c) := by
  rw [rcS, List.getElem?_append_right (by simp)]; simp
theorem rcS_1 : (rcS H c m ms)[H.length + 1]? = some (rb2 m) := by
  rw [rcS, List.getElem?_append_right (by simp)]; simp
theorem rcS_m (hm : m < H.length) : (rcS H c m ms)[m]? = some (.mmap (ms.map mEnt)) := by
  rw [rcS, List.getElem?_append_left (by simpa using hm)]; simp [hm]
theorem rcS_o {b : Nat} {o : Obj} (hb : H[b]? = some o) (hne : b ≠ m) : (rcS H c m ms)[b]? = some o := by
  have := (List.getElem?_eq_some_iff.1 hb).1
  rw [rcS, List.getElem?_append_left (by simpa using this), List.getElem?_set_ne (fun e => hne e.symm), hb]
theorem rcS_set {ms' : List (ByteArray × Int)} (hm : m < H.length) : (rcS H c m ms).set m (.mmap (ms'.map mEnt)) = rcS H c m ms' := by
  rw [rcS, List.set_append_left _ _ (by simpa using hm), List.set_set]; rfl
theorem rcS_take : (rcS H c m ms).take H.length = H.set m (.mmap (ms.map mEnt)) := by
  rw [rcS, List.take_append_of_le_length (by simp), List.take_of_length_le (by simp)]
end
def ReachOk1 (p : List Nd) (to : ByteArray) (U : List ByteArray) (n : Nat) : Prop := ∀ (base c d1 d2 m bc bm : Nat) (H : Heap) (mp : List (ByteArray × V)) (x : Nd) (lv : V) (e : Er) (ms : List (ByteArray × Int)) (s : ByteArray),
  RcH H c d2 m mp (ckC x lv d1 d2 e) → H[bc]? = some (rb1 c) → H[bm]? = some (rb2 m) → ProcM p mp → H[m]? = some (.mmap (ms.map mEnt)) → freshN ms U ≤ n → s ∈ U →
  WpF S0 base k_check_checker_reaches_1 [.sc (.string s), .eptr [.sc (.string to)] 0, .ptr bm 0, .ptr bc 0] H fun r h' => ∃ (b : Bool) (ms' : List (ByteArray × Int)), r = .sc (.bool b) ∧ h' = H.set m (.mmap (ms'.map mEnt)) ∧ PostR p to ms ms' [s] b
set_option maxHeartbeats 4000000 in
theorem reach_r {p : List Nd} {to : ByteArray} {U : List ByteArray} {n : Nat} (h1 : ReachOk1 p to U n) : ReachOk p to U n := by
  intro base c d1 d2 m H mp x lv e ms l v hrc hpm hms hfr hsl hU
  have hnew : H ++ [rb1 c] ++ [rb2 m] = rcS H c m ms := by
    rw [rcS, set_same hms, List.append_assoc]; rfl
  have hcm : c ≠ m := by rintro rfl; rw [hrc.hc] at hms; simp at hms
  have hstep : ∀ (base i : Nat) (hi : i < l.length) (a : List (ByteArray × Int)), PostR p to ms a (l.take i) false → WpF S0 base k_check_checker_reaches_1 (.sc (.string l[i]) :: [.eptr [.sc (.string to)] 0, .ptr (H.length + 1) 0, .ptr H.length 0]) (rcS H c m a) fun r h' => ∃ a', h' = rcS H c m a' ∧ ((r = .sc (.bool true) ∧ PostR p to ms a' l true) ∨ (r = .sc (.bool false) ∧ PostR p to ms a' (l.take (i + 1)) false)) := by
    intro base i hi a hpost
    have hfa : freshN a U ≤ n := Nat.le_trans (fresh_le hpost.1 U) hfr
    refine (h1 base c d1 d2 m H.length (H.length + 1) (rcS H c m a) mp x lv e a l[i] ⟨rcS_o hrc.hc hcm, rcS_o hrc.hp hrc.hdm, hrc.hdm, by rw [rcS_len]; have := hrc.hm; omega⟩ rcS_0 rcS_1 hpm (rcS_m hrc.hm) hfa (hU _ (List.getElem_mem hi))).mono ?_
    rintro r h' ⟨b, ms', rfl, rfl, hp2⟩
    have htk : l.take (i + 1) = l.take i ++ [l[i]] := by rw [List.take_add_one, List.getElem?_eq_getElem hi]; rfl
    have hsn := PostR.snoc hpost hp2
    refine ⟨ms', rcS_set hrc.hm, ?_⟩
    cases b with
    | false => exact .inr ⟨rfl, by rw [htk]; exact hsn⟩
    | true =>
      refine .inl ⟨rfl, hsn.1, fun _ => ?_, fun q => by simp at q⟩
      obtain ⟨s, hs, hr⟩ := hsn.2.1 rfl
      rw [← htk] at hs
      exact ⟨s, List.mem_of_mem_take hs, hr⟩
  have hidx : ∀ base, WpF S0 base k_slices_IndexFuncstringstring [v, .fn (.func k_check_checker_reaches_1) [] [.eptr [.sc (.string to)] 0, .ptr (H.length + 1) 0, .ptr H.length 0]] (rcS H c m ms) fun r h' => ∃ (n : Int) (a' : List (ByteArray × Int)), r = .sc (.int .i64 n) ∧ h' = rcS H c m a' ∧ ((0 ≤ n ∧ PostR p to ms a' l true) ∨ (n < 0 ∧ PostR p to ms a' (l.take l.length) false)) := fun base =>
    indexFS_r (rcS H c m) (H.length + 2) (fun a => rcS_len) k_check_checker_reaches_1 _ l v (fun a => (hsl.set hms).app) (fun i a => PostR p to ms a (l.take i) false) (fun a => PostR p to ms a l true) hstep ms PostR.nil
  have hcf : ∀ base, WpF S0 base k_slices_ContainsFuncstringstring [v, .fn (.func k_check_checker_reaches_1) [] [.eptr [.sc (.string to)] 0, .ptr (H.length + 1) 0, .ptr H.length 0]] (rcS H c m ms) fun r h' => ∃ (b : Bool) (a' : List (ByteArray × Int)), r = .sc (.bool b) ∧ h' = rcS H c m a' ∧ PostR p to ms a' l b := by
    intro base
    first | refine zu (A := f_slices_ContainsFuncstringstring) rfl rfl rfl rfl ?_ | refine zB (A := f_slices_ContainsFuncstringstring) rfl rfl rfl rfl ?_
    simp only [f_slices_ContainsFuncstringstring, oD, cD]
    simp only [SQ, SQB, zm, AOp.opds, step, Opd.get, zk, bin, zc, IntKind.signed, zi, zj, zl, zb, unary, ze, zd, za, zo, zr, zh, zf, zg, zp, Cp.isFull, isNil, zq, simprocAttr, SQX, V.cells, callD_some]
    refine (hidx _).mono ?_
    rintro r h' ⟨n, a', rfl, rfl, h2⟩
    have htk : (rcS H c m a').take (rcS H c m ms).length = rcS H c m a' := List.take_of_length_le (by rw [rcS_len, rcS_len]; omega)
    rcases h2 with ⟨h2, h3⟩ | ⟨h2, h3⟩
    · have := decide_eq_true h2
      simp only [SQ, SQB, zm, AOp.opds, step, Opd.get, zk, bin, zc, IntKind.signed, zi, zj, zl, zb, unary, ze, zd, za, zo, zr, zh, zf, zg, zp, Cp.isFull, isNil, zq, simprocAttr, SQX, V.cells, htk, this]
      exact ⟨true, a', rfl, rfl, h3⟩
    · have := decide_eq_false (show ¬ 0 ≤ n by omega)
      simp only [SQ, SQB, zm, AOp.opds, step, Opd.get, zk, bin, zc, IntKind.signed, zi, zj, zl, zb, unary, ze, zd, za, zo, zr, zh, zf, zg, zp, Cp.isFull, isNil, zq, simprocAttr, SQX, V.cells, htk, this]
      rw [List.take_length] at h3
      exact ⟨false, a', rfl, rfl, h3⟩
  first | refine zu (A := f_check_checker_reaches) rfl rfl rfl rfl ?_ | refine zB (A := f_check_checker_reaches) rfl rfl rfl rfl ?_
  simp only [f_check_checker_reaches, oD, cD]
  simp only [SQ, SQB, zm, AOp.opds, step, Opd.get, zk, bin, zc, IntKind.signed, zi, zj, zl, zb, unary, ze, zd, za, zo, zr, zh, zf, zg, zp, Cp.isFull, isNil, zq, simprocAttr, SQX, V.cells, List.length_append, hnew, callD_some]
  refine (hcf _).mono ?_
  rintro r h' ⟨b, a', rfl, rfl, h2⟩
  simp only [SQ, SQB, zm, AOp.opds, step, Opd.get, zk, bin, zc, IntKind.signed, zi, zj, zl, zb, unary, ze, zd, za, zo, zr, zh, zf, zg, zp, Cp.isFull, isNil, zq, simprocAttr, SQX, V.cells, rcS_take]
  exact ⟨b, a', rfl, rfl, h2⟩
end
section
theorem keep2 {P : Nat → Prop} {a b : Nat} (ha : P a) (hb : P b) : ∀ x ∈ [a, b], P x := by
  intro x hx
  simp only [List.mem_cons, List.not_mem_nil, or_false] at hx
  rcases hx with rfl | rfl
  · exact ha
  · exact hb
set_option maxHeartbeats 4000000 in
theorem reach1_of {p : List Nd} {to : ByteArray} {U : List ByteArray} (hU : ∀ t, ∀ u ∈ callsN (procN p t) [], u ∈ U) (hsz : ∀ t, szN (procN p t) ≤ 2000) {n : Nat} (ih : ∀ k, k < n → ReachOk p to U k) : ReachOk1 p to U n := by
  intro base c d1 d2 m bc bm H mp x lv e ms s hrc hbc hbm hpm hms hfr hs
  have hlm : lim = 2 ^ 36 := rfl
  have hcm : c ≠ m := by rintro rfl; rw [hrc.hc] at hms; simp at hms
  have hbcm : bc ≠ m := by rintro rfl; rw [hbc] at hms; simp at hms
  have hbmm : bm ≠ m := by rintro rfl; rw [hbm] at hms; simp at hms
  obtain ⟨q1, hlk⟩ := look_b s hms
  first | refine zu (A := f_check_checker_reaches_1) rfl rfl rfl rfl ?_ | refine zB (A := f_check_checker_reaches_1) rfl rfl rfl rfl ?_
  simp only [f_check_checker_reaches_1, oD, cD]
  by_cases h1 : s = to
  · have d1 := decide_eq_true h1
    simp only [SQ, SQB, zm, AOp.opds, step, Opd.get, zk, bin, zc, IntKind.signed, zi, zj, zl, zb, unary, ze, zd, za, zo, zr, zh, zf, zg, zp, Cp.isFull, isNil, zq, simprocAttr, SQX, V.cells, zE, list_eq, d1, List.take_length]
    exact ⟨true, ms, rfl, (set_same hms).symm, fun _ h => h, fun _ => ⟨s, by simp, h1 ▸ .refl s⟩, fun q => by simp at q⟩
  have dd1 := decide_eq_false h1
  by_cases h2 : 0 < getI ms s
  · have d2 := decide_eq_true h2
    simp only [SQ, SQB, zm, AOp.opds, step, Opd.get, zk, bin, zc, IntKind.signed, zi, zj, zb, unary, ze, zd, za, zo, zr, zh, zf, zg, zp, Cp.isFull, isNil, zq, simprocAttr, SQX, V.cells, zE, list_eq, dd1, loadV_p hbm, loadV_e, hlk, d2, List.take_length]
    exact ⟨false, ms, rfl, (set_same hms).symm, fun _ h => h, fun q => by simp at q, fun _ => ⟨fun t ht => by rw [List.mem_singleton.1 ht]; exact ⟨h1, h2⟩, fun t a b => absurd a b⟩⟩
  have dd2 := decide_eq_false h2
  have hup := upd_b (base := H.length) s 1 hms
  have hms1 : (H.set m (.mmap ((putI ms s 1).map mEnt)))[m]? = some (.mmap ((putI ms s 1).map mEnt)) := set_get hms
  have hc1 : (H.set m (.mmap ((putI ms s 1).map mEnt)))[c]? = some (.box 49 (ckC x lv d1 d2 e)) := by rw [List.getElem?_set_ne (fun q => hcm q.symm)]; exact hrc.hc
  have hp1 : (H.set m (.mmap ((putI ms s 1).map mEnt)))[d2]? = some (.mmap (mp.map mEntV)) := by rw [List.getElem?_set_ne (fun q => hrc.hdm q.symm)]; exact hrc.hp
  have hbc1 : (H.set m (.mmap ((putI ms s 1).map mEnt)))[bc]? = some (rb1 c) := by rw [List.getElem?_set_ne (fun q => hbcm q.symm)]; exact hbc
  have hbm1 : (H.set m (.mmap ((putI ms s 1).map mEnt)))[bm]? = some (rb2 m) := by rw [List.getElem?_set_ne (fun q => hbmm q.symm)]; exact hbm
  obtain ⟨lq, q2, hlk2, hlq⟩ := hpm.look hp1 s
  have htake : (H.set m (.mmap ((putI ms s 1).map mEnt))).length = H.length := by simp
  generalize hH1 : H.set m (.mmap ((putI ms s 1).map mEnt)) = H1 at hms1 hc1 hp1 hbc1 hbm1 hlk2 htake
  simp only [SQ, SQB, zm, AOp.opds, step, Opd.get, zk, bin, zc, IntKind.signed, zi, zj, zb, unary, ze, zd, za, zo, zr, zh, zf, zg, zp, Cp.isFull, isNil, zq, simprocAttr, SQX, V.cells, zE, list_eq, dd1, loadV_p hbm, loadV_p hbm1, loadV_p hbc1, loadV_p hc1, loadV_e, hlk, dd2, hup, hH1, hlk2, WpO_callKD, keepL, blockOf, consO_some, consO_none, callKD_some]
  have hcsz := hsz s
  have hcl := callsN_len (procN p s) []
  simp only [List.length_nil] at hcl
  refine (calls_r _ (procN p s) (Nat.le_refl _) H.length _ H1 H1 _ [] hlq.nd .nil (by simp only [List.length_nil]; omega)).mono ?_
  intro v H2 hown
  have hkeep : ∀ (b : Nat) (o : Obj), H1[b]? = some o → H2[b]? = some o := by
    intro b o hb
    rcases hown with ⟨_, _, rfl⟩ | ⟨_, _, rfl⟩
    · exact hb
    · exact app_get hb
  have hlt : freshN (putI ms s 1) U < freshN ms U := fresh_lt (fun t h => by rw [get_put]; split <;> omega) (by omega) (by rw [get_put, if_pos rfl]; omega) hs
  have hset : ∀ ms' : List (ByteArray × Int), (H2.set m (.mmap (ms'.map mEnt))).take H.length = H.set m (.mmap (ms'.map mEnt)) := by
    intro ms'
    rcases hown with ⟨_, _, rfl⟩ | ⟨_, _, rfl⟩
    · rw [List.take_of_length_le (by simp [htake]), ← hH1, List.set_set]
    · rw [app_set hms1, List.take_append_of_le_length (by simp [htake]), List.take_of_length_le (by simp [htake]), ← hH1, List.set_set]
  refine ⟨keep2 (by rw [hkeep _ _ hbc1, hbc1]) (by rw [hkeep _ _ hbm1, hbm1]), ?_⟩
  simp only [SQ, SQB, zm, AOp.opds, step, Opd.get, zk, bin, zc, IntKind.signed, zi, zj, zl, zb, unary, ze, zd, za, zo, zr, zh, zf, zg, zp, Cp.isFull, isNil, zq, simprocAttr, SQX, V.cells, callD_some]
  have hrc2 : RcH H2 c d2 m mp (ckC x lv d1 d2 e) := ⟨hkeep _ _ hc1, hkeep _ _ hp1, hrc.hdm, by
    have := (List.getElem?_eq_some_iff.1 (hkeep _ _ hms1)).1
    exact this⟩
  refine (ih (freshN (putI ms s 1) U) (by omega) H.length c d1 d2 m H2 mp x lv e (putI ms s 1) _ v hrc2 hpm (hkeep _ _ hms1) (Nat.le_refl _) (hown.sl (by omega)) (hU s)).mono ?_
  rintro r h' ⟨b, ms', rfl, rfl, hpost⟩
  simp only [SQ, SQB, zm, AOp.opds, step, Opd.get, zk, bin, zc, IntKind.signed, zi, zj, zl, zb, unary, ze, zd, za, zo, zr, zh, zf, zg, zp, Cp.isFull, isNil, zq, simprocAttr, SQX, V.cells, hset]
  exact ⟨b, ms', rfl, rfl, PostR.one h1 h2 hpost⟩
theorem reach_all {p : List Nd} {to : ByteArray} {U : List ByteArray} (hU : ∀ t, ∀ u ∈ callsN (procN p t) [], u ∈ U) (hsz : ∀ t, szN (procN p t) ≤ 2000) (n : Nat) : ReachOk p to U n := by
  induction n using Nat.strongRecOn with
  | _ n ih => exact reach_r (reach1_of hU hsz ih)
section
variable {base c d1 d2 : Nat} {h : Heap} {x : Nd} {lv : V} {e : Er} {mp : List (ByteArray × V)}
set_option maxHeartbeats 4000000 in
theorem cycles_r (hl : LV lv x.l) (hc : h[c]? = some (.box 49 (ckC x lv d1 d2 e))) (hp : h[d2]? = some (.mmap (mp.map mEntV))) (hpm : ProcM x.l mp) (hsz : szN x ≤ 1500) :
    WpF S0 base k_check_checker_cycles [.ptr c 0] h fun v h' => v = .tup [] ∧ h' = h.set c (.box 49 (ckC x lv d1 d2 (hitE (cycL x.l x.l) e))) := by
  have ll := hl.len
  have lt := hl.lt
  have hlm : lim = 2 ^ 36 := rfl
  have hszL := szN_eq x
  have hlen := (List.getElem?_eq_some_iff.1 hc).1
  have hS : ∀ E : Er, (h.set c (.box 49 (ckC x lv d1 d2 E)))[c]? = some (.box 49 (ckC x lv d1 d2 E)) := fun E => set_get hc
  have hP : ∀ E : Er, (h.set c (.box 49 (ckC x lv d1 d2 E)))[d2]? = some (.mmap (mp.map mEntV)) := fun E => set_other hp hc (by simp)
  first | refine zu (A := f_check_checker_cycles) rfl rfl rfl rfl ?_ | refine zB (A := f_check_checker_cycles) rfl rfl rfl rfl ?_
  simp only [f_check_checker_cycles, oD, cD]
  simp only [SQ, SQB, zm, AOp.opds, step, Opd.get, bin, zc, IntKind.signed, zi, zj, zl, zb, unary, ze, zd, za, zo, zr, zh, zf, zg, zp, Cp.isFull, isNil, zq, simprocAttr, SQX, V.cells, hc, ll]
  refine WpC_loopI (fun k en h' => ∃ i : Nat, k = x.l.length - i ∧ i ≤ x.l.length ∧ en 10 = V.int i ∧ en 9 = V.int x.l.length ∧ en 8 = lv ∧ en 0 = .ptr c 0 ∧ ∃ ext, h' = h.set c (.box 49 (ckC x lv d1 d2 (hitE (cycL x.l (x.l.take i)) e))) ++ ext) x.l.length ⟨0, rfl, Nat.zero_le _, rfl, rfl, rfl, rfl, [], by rw [List.append_nil]; exact (set_same hc).symm⟩ ?_
  rintro k en h' ⟨i, rfl, hi, i10, i9, i8, i0, ext, rfl⟩
  by_cases hh : i < x.l.length
  · obtain ⟨r, hr1, hr2⟩ := hl.get hh
    obtain ⟨lv2, rfl, hl2⟩ := hr2.open
    have hf := cycL_take (p := x.l) hh
    generalize hE : hitE (cycL x.l (x.l.take i)) e = E
    have hstep : hitE (cycL x.l (x.l.take (i + 1))) e = hitE (if x.l[i].kind = 3 then [(cycB x.l x.l[i], x.l[i].line, 27)] else []) E := by rw [hf, hit_app, hE]
    by_cases k3 : x.l[i].kind = 3
    rotate_left
    · have d3 := decide_eq_false k3
      simp only [SQ, SQB, zm, AOp.opds, step, Opd.get, bin, zc, IntKind.signed, zj, zl, zb, unary, ze, zd, za, zo, zr, zh, zf, zg, zp, Cp.isFull, isNil, zq, simprocAttr, SQX, V.cells, i10, i9, i8, i0, hh, hr1, zC, hl2.gr, d3]
      exact ⟨x.l.length - (i + 1), by omega, i + 1, rfl, by omega, by rw [wrap_i64 (by omega) (by omega)]; rfl, ext, by rw [hstep, if_neg k3]; rfl⟩
    have d3 := decide_eq_true k3
    have hcsz := sz_child (List.getElem_mem hh)
    generalize hH0 : h.set c (.box 49 (ckC x lv d1 d2 E)) ++ ext = H0
    simp only [SQ, SQB, zm, AOp.opds, step, Opd.get, bin, zc, IntKind.signed, zj, zl, zb, unary, ze, zd, za, zo, zr, zh, zf, zg, zp, Cp.isFull, isNil, zq, simprocAttr, SQX, V.cells, i10, i9, i8, i0, hh, hr1, zC, hl2.gr, d3, hH0, callD_some]
    refine (calls_r _ x.l[i] (Nat.le_refl _) h.length _ H0 H0 _ [] hr2 .nil (by simp only [List.length_nil]; omega)).mono ?_
    intro v H1 hown
    have hcl := callsN_len x.l[i] []
    simp only [List.length_nil] at hcl
    obtain ⟨ext1, hH1⟩ : ∃ ext1, H1 = h.set c (.box 49 (ckC x lv d1 d2 E)) ++ ext1 := by
      rcases hown with ⟨_, _, rfl⟩ | ⟨_, _, rfl⟩
      · exact ⟨ext, hH0.symm⟩
      · exact ⟨ext ++ _, by rw [← hH0, List.append_assoc]⟩
    have hc1 : H1[c]? = some (.box 49 (ckC x lv d1 d2 E)) := by rw [hH1]; exact app_get (hS E)
    have hp1 : H1[d2]? = some (.mmap (mp.map mEntV)) := by rw [hH1]; exact app_get (hP E)
    have hsl := hown.sl (by omega)
    have hre := fun base => reach_all (p := x.l) (to := x.l[i].s) (U := tgL x.l) (fun t u hu => proc_tg hu) (fun t => by have := proc_sz (p := x) t; omega) _ base c d1 d2 H1.length (H1 ++ [.mmap []]) mp x lv E [] (callsN x.l[i] []) v
      ⟨app_get hc1, app_get hp1, by have := (List.getElem?_eq_some_iff.1 hp1).1; omega, by simp⟩ hpm (by simp) (Nat.le_refl _) hsl.app (fun s hs => by
        rw [mem_callsN] at hs
        rcases hs with hs | hs
        · simp at hs
        · exact tgL_mem (List.getElem_mem hh) hs)
    refine (hre _).mono ?_
    rintro r h' ⟨b, ms', rfl, rfl, hpost⟩
    have hb : b = cycB x.l x.l[i] := by
      have hd := hpost.done
      cases b with
      | true => exact (cycB_t (hd.1 rfl)).symm
      | false => exact (cycB_f (fun q => by have := hd.2 q; simp at this)).symm
    have hlast : (H1 ++ [Obj.mmap []]).set H1.length (.mmap (ms'.map mEnt)) = H1 ++ [.mmap (ms'.map mEnt)] := last_set ..
    have hc2 : (H1 ++ [Obj.mmap (ms'.map mEnt)])[c]? = some (.box 49 (ckC x lv d1 d2 E)) := app_get hc1
    have hwr := fun base is line no => wrong_r (base := base) is line no hc2
    rw [hlast]
    refine (hwr _ _ _ _).mono ?_
    rintro _ _ ⟨rfl, rfl⟩
    refine ⟨x.l.length - (i + 1), by omega, i + 1, rfl, by omega, by rw [wrap_i64 (by omega) (by omega)]; rfl, ext1 ++ [.mmap (ms'.map mEnt)], ?_⟩
    rw [hstep, if_pos k3, app_set hc1, hH1, app_set (hS E), List.set_set, List.append_assoc, hb]
    rfl
  · have : x.l.take i = x.l := List.take_of_length_le (by omega)
    rw [this]
    have htk : ∀ (E : Er) (ext : Heap), (h.set c (.box 49 (ckC x lv d1 d2 E)) ++ ext).take h.length = h.set c (.box 49 (ckC x lv d1 d2 E)) := fun E ext => by
      rw [List.take_append_of_le_length (by simp), List.take_of_length_le (by simp)]
    simp only [SQ, SQB, zm, AOp.opds, step, Opd.get, bin, zc, IntKind.signed, zj, zl, zb, unary, ze, zd, za, zo, zr, zh, zf, zg, zp, Cp.isFull, isNil, zq, simprocAttr, SQX, V.cells, i10, i9, i8, i0, hh, htk]
end
end
section
theorem LV.slc7 {lv : V} {l : List Nd} (h : LV lv l) (h0 : 0 < l.length) : ∃ ex rows, lv = .slc ex 7 rows ∧ NdR l rows := by
  rcases h with ⟨rfl, rfl⟩ | ⟨ex, rows, rfl, h, _⟩
  · simp at h0
  · exact ⟨ex, rows, rfl, h⟩
theorem declF_init (G : ByteArray → Int) (y : Nd) (h0 : 0 < y.l.length) (h7 : (y.l.getD (y.l.length - 1) zN).kind = 7) : declF G y y.l = declF G y (y.l.take (y.l.length - 1)) := by
  have hN : y.l.length - 1 < y.l.length := by omega
  have hf : declF G y (y.l.take (y.l.length - 1 + 1)) = dStep G (declF G y (y.l.take (y.l.length - 1))) y.l[y.l.length - 1] := foldl_take hN
  rw [List.take_of_length_le (by omega)] at hf
  rw [hf]
  unfold dStep
  have : y.l[y.l.length - 1].kind = 7 := by simpa [hN] using h7
  rw [if_pos this]
section
variable {base c d1 d2 : Nat} {h : Heap} {x : Nd} {lv : V} {e : Er} {mg : List (ByteArray × Int)} {mp : List (ByteArray × V)}
set_option maxHeartbeats 4000000 in
theorem items_r (hl : LV lv x.l) (hc : h[c]? = some (.box 49 (ckC x lv d1 d2 e))) (hd : h[d1]? = some (.mmap (mg.map mEnt))) (hp : h[d2]? = some (.mmap (mp.map mEntV))) (hmg : ∀ s, getI mg s = globN s x.l) (hpm : ProcM x.l mp)
    (hok : ∀ y ∈ x.l, y.kind ≠ 2 → 0 < y.l.length ∧ (y.l.getD (y.l.length - 1) zN).kind = 7) :
    WpF S0 base k_check_checker_items [.ptr c 0] h fun v h' => v = .tup [] ∧ h' = h.set c (.box 49 (ckC x lv d1 d2 (hitE (itemsL x x.l) e))) := by
  have ll := hl.len
  have lt := hl.lt
  have hS : ∀ E : Er, (h.set c (.box 49 (ckC x lv d1 d2 E)))[c]? = some (.box 49 (ckC x lv d1 d2 E)) := fun E => set_get hc
  have hP : ∀ E : Er, (h.set c (.box 49 (ckC x lv d1 d2 E)))[d2]? = some (.mmap (mp.map mEntV)) := fun E => set_other hp hc (by simp)
  have hD : ∀ E : Er, (h.set c (.box 49 (ckC x lv d1 d2 E)))[d1]? = some (.mmap (mg.map mEnt)) := fun E => set_other hd hc (by simp)
  have hG : getI mg = fun s => globN s x.l := funext hmg
  first | refine zu (A := f_check_checker_items) rfl rfl rfl rfl ?_ | refine zB (A := f_check_checker_items) rfl rfl rfl rfl ?_
  simp only [f_check_checker_items, oD, cD]
  simp only [SQ, SQB, zm, AOp.opds, step, Opd.get, bin, zc, IntKind.signed, zi, zj, zl, zb, unary, ze, zd, za, zo, zr, zh, zf, zg, zp, Cp.isFull, isNil, zq, simprocAttr, SQX, V.cells, hc, ll]
  refine WpC_loopI (fun k en h' => ∃ i : Nat, k = x.l.length - i ∧ i ≤ x.l.length ∧ en 10 = V.int i ∧ en 9 = V.int x.l.length ∧ en 8 = lv ∧ en 0 = .ptr c 0 ∧ ∃ ext, h' = h.set c (.box 49 (ckC x lv d1 d2 (hitE (itemsL x (x.l.take i)) e))) ++ ext) x.l.length ⟨0, rfl, Nat.zero_le _, rfl, rfl, rfl, rfl, [], by rw [List.append_nil]; exact (set_same hc).symm⟩ ?_
  rintro k en h' ⟨i, rfl, hi, i10, i9, i8, i0, ext, rfl⟩
  by_cases hh : i < x.l.length
  · obtain ⟨r, hr1, hr2⟩ := hl.get hh
    obtain ⟨lv2, rfl, hl2⟩ := hr2.open
    have hf := itemsL_take (p := x) hh
    generalize hE : hitE (itemsL x (x.l.take i)) e = E
    have hstep : hitE (itemsL x (x.l.take (i + 1))) e = hitE (if x.l[i].kind = 2 then [] else itemL x x.l[i]) E := by rw [hf, hit_app, hE]
    by_cases k2 : x.l[i].kind = 2
    · have d2 := decide_eq_true k2
      simp only [SQ, SQB, zm, AOp.opds, step, Opd.get, bin, zc, IntKind.signed, zj, zl, zb, unary, ze, zd, za, zo, zr, zh, zf, zg, zp, Cp.isFull, isNil, zq, simprocAttr, SQX, V.cells, i10, i9, i8, i0, hh, hr1, zC, hl2.gr, d2]
      exact ⟨x.l.length - (i + 1), by omega, i + 1, rfl, by omega, by rw [wrap_i64 (by omega) (by omega)]; rfl, ext, by rw [hstep, if_pos k2]; rfl⟩
    have dd2 := decide_eq_false k2
    obtain ⟨o1, o2⟩ := hok x.l[i] (List.getElem_mem hh) k2
    have hdl := declF_init (getI mg) x.l[i] o1 o2
    have hcA : ∀ E : Er, (h.set c (.box 49 (ckC x lv d1 d2 E)) ++ ext)[c]? = some (.box 49 (ckC x lv d1 d2 E)) := fun E => app_get (hS E)
    have hdc := fun base => declared_r (base := base) hr2 (hcA E) (app_get (hD E))
    rw [hdl, app_set (hS E), List.set_set] at hdc
    generalize hE1 : hitE (declF (getI mg) x.l[i] (x.l[i].l.take (x.l[i].l.length - 1))).2 E = E1 at hdc
    generalize hH1 : h.set c (.box 49 (ckC x lv d1 d2 E1)) ++ ext = H1 at hdc
    obtain ⟨ms, hms, hlo⟩ := callD_exh (f := fun _ => .mp H1.length) (g := fun ms : List (ByteArray × Int) => H1 ++ [.mmap (ms.map mEnt)]) (local_r (base := h.length) H1 hr2)
    have hw : WkH (H1 ++ [.mmap (ms.map mEnt)]) H1.length c d1 d2 ms mg mp (ckC x lv d1 d2 E1) := ⟨by simp, by rw [← hH1, List.append_assoc]; exact app_get (hS E1), by rw [← hH1, List.append_assoc]; exact app_get (hD E1), by rw [← hH1, List.append_assoc]; exact app_get (hP E1)⟩
    obtain ⟨ex, rows, e7, hrows⟩ := hl2.slc7 o1
    have hN : x.l[i].l.length - 1 < x.l[i].l.length := by omega
    obtain ⟨rr, hrr1, hrr2⟩ := hrows.get (x.l[i].l.length - 1) _ (List.getElem?_eq_getElem hN)
    obtain ⟨lv3, rfl, hl3⟩ := hrr2.open
    have hwk := fun base => walk_r x.l _ x.l[i].l[x.l[i].l.length - 1] (Nat.le_refl _) base H1.length c d1 d2 _ _ ms mg mp x lv E1 hrr2 hw hpm
    have hset : (H1 ++ [Obj.mmap (ms.map mEnt)]).set c (.box 49 (ckC x lv d1 d2 (hitE (walkL (kOf ms mg) (fun t => (procN x.l t).n) x.l[i].l[x.l[i].l.length - 1]) E1))) = h.set c (.box 49 (ckC x lv d1 d2 (hitE (walkL (kOf ms mg) (fun t => (procN x.l t).n) x.l[i].l[x.l[i].l.length - 1]) E1))) ++ (ext ++ [Obj.mmap (ms.map mEnt)]) := by
      rw [← hH1, List.append_assoc, app_set (hS E1), List.set_set]
    have hsub : IntKind.i64.wrap ((x.l[i].l.length : Int) - 1) = ((x.l[i].l.length - 1 : Nat) : Int) := by
      have := hl2.lt
      rw [wrap_i64 (by omega) (by omega)]; omega
    have hrl : rows.length = x.l[i].l.length := hrows.len
    subst e7
    simp only [SQ, SQB, zm, AOp.opds, step, Opd.get, zk, bin, zc, IntKind.signed, zj, zl, zb, unary, ze, zd, za, zo, zr, zh, zf, zg, zp, Cp.isFull, isNil, zq, simprocAttr, SQX, V.cells, i10, i9, i8, i0, hh, hr1, zC, dd2, zn (hdc _), zn hlo, hrl, hsub, hrr1, zn (hwk _), hset]
    refine ⟨x.l.length - (i + 1), by omega, i + 1, rfl, by omega, by rw [wrap_i64 (by omega) (by omega)]; rfl, _, congrArg (fun E => h.set c (.box 49 (ckC x lv d1 d2 E)) ++ _) ?_⟩
    rw [hstep, if_neg k2, ← hE1]
    have hk : kOf ms mg = fun s => kindN s x x.l[i] := funext fun s => kOf_kind (hms s) (hmg s)
    have hlast : x.l[i].l.getD (x.l[i].l.length - 1) zN = x.l[i].l[x.l[i].l.length - 1] := by simp [hN]
    rw [itemL, hit_app, hk, hG, hlast]
  · have : x.l.take i = x.l := List.take_of_length_le (by omega)
    rw [this]
    have htk : ∀ (E : Er) (ext : Heap), (h.set c (.box 49 (ckC x lv d1 d2 E)) ++ ext).take h.length = h.set c (.box 49 (ckC x lv d1 d2 E)) := fun E ext => by
      rw [List.take_append_of_le_length (by simp), List.take_of_length_le (by simp)]
    simp only [SQ, SQB, zm, AOp.opds, step, Opd.get, bin, zc, IntKind.signed, zj, zl, zb, unary, ze, zd, za, zo, zr, zh, zf, zg, zp, Cp.isFull, isNil, zq, simprocAttr, SQX, V.cells, i10, i9, i8, i0, hh, htk]
end
end
section
theorem R_skip' {a b : List Ck} (ha : nosL a) (h : R a = (0, 0)) : R (a ++ b) = R b := by rw [R_app ha, h]; rfl
abbrev fnC (k c : Nat) : V := .fn (.func k) [.ptr c 0] []
theorem fill4 {a b c d : V} (ha : a.cells = [a] ∧ zm a = true) (hb : b.cells = [b] ∧ zm b = true) (hc : c.cells = [c] ∧ zm c = true) (hd : d.cells = [d] ∧ zm d = true) : zv 1 (List.replicate 4 [.sc .nilFunc]) [(0, a), (1, b), (2, c), (3, d)] = some [[a], [b], [c], [d]] := by
  simp [zv, ha, hb, hc, hd]
noncomputable def passL (p : Nd) : Nat → List Ck
  | 0 => (globF p.l).2.2
  | 1 => thrL p.l
  | 2 => itemsL p p.l
  | _ => cycL p.l p.l
theorem pass_nos (p : Nd) (i : Nat) : nosL (passL p i) := by
  unfold passL
  split
  · exact globF_nos _
  · exact thrL_nos _
  · exact itemsL_nos _ _
  · exact cycL_nos _ _
theorem pass_bad {p : Nd} : ∀ {i : Nat}, i < 4 → (∀ j, j < i → R (passL p j) = (0, 0)) → (R (passL p i)).2 ≠ 0 → R (checkL p) = R (passL p i)
  | 0, _, _, h => R_pre h
  | 1, _, h0, h => by
    rw [checkL, R_skip' (globF_nos _) (h0 0 (by omega))]
    exact R_pre h
  | 2, _, h0, h => by
    rw [checkL, R_skip' (globF_nos _) (h0 0 (by omega)), R_skip' (thrL_nos _) (h0 1 (by omega))]
    exact R_pre h
  | 3, _, h0, h => by
    rw [checkL, R_skip' (globF_nos _) (h0 0 (by omega)), R_skip' (thrL_nos _) (h0 1 (by omega)), R_skip' (itemsL_nos _ _) (h0 2 (by omega))]
    rfl
  | i + 4, h, _, _ => by omega
theorem pass_good {p : Nd} (h0 : ∀ j, j < 4 → R (passL p j) = (0, 0)) : R (checkL p) = (0, 0) := by
  rw [checkL, R_skip' (globF_nos _) (h0 0 (by omega)), R_skip' (thrL_nos _) (h0 1 (by omega)), R_skip' (itemsL_nos _ _) (h0 2 (by omega))]
  exact h0 3 (by omega)
set_option maxHeartbeats 8000000 in
theorem check_r {base : Nat} {p : Nd} {cp : List V} (h : Heap) (hp : NdV p cp) (hsz : szN p ≤ 1500) : WpF S0 base k_check_Check [.agg cp] h fun v h' => v = .tup [.sc (.int .i64 (if okK zA 1 1 p then (R (checkL p)).1 else 0)), .sc (.int .i64 (if okK zA 1 1 p then (R (checkL p)).2 else 21))] ∧ h' = h := by
  have hmay := fun base h => aMay_r (base := base) h hp
  obtain ⟨lp, rfl, hl⟩ := hp.open
  have ll := hl.len
  have lt := hl.lt
  first | refine zu (A := f_check_Check) rfl rfl rfl rfl ?_ | refine zB (A := f_check_Check) rfl rfl rfl rfl ?_
  simp only [f_check_Check, oD, cD]
  refine zw (fun en' h' => en' 1 = .eptr (ndC p lp) 0 ∧ h' = h) ?_ ?_
  · simp only [SQ, SQB, zm, AOp.opds, step, Opd.get, zk, bin, zc, IntKind.signed, zi, zj, zl, zb, unary, ze, zd, za, zo, zr, zh, zf, zg, zp, Cp.isFull, isNil, zq, simprocAttr, -List.reduceReplicate, SQX, V.cells, hl.gr]
  rintro en1 h1 ⟨e1, rfl⟩
  cases hm : okK zA 1 1 p
  · simp only [SQ, SQB, zm, AOp.opds, step, Opd.get, zk, bin, zc, IntKind.signed, zi, zj, zl, zb, unary, ze, zd, za, zo, zr, zh, zf, zg, zp, Cp.isFull, isNil, zq, simprocAttr, -List.reduceReplicate, SQX, V.cells, e1, zC, zn (hmay _ _), hm]
  simp only [if_true]
  have hok := may_items hm
  have hla := may_last hm
  refine zw (fun en' h' => en' 1 = .eptr (ndC p lp) 0 ∧ h' = h1) ?_ ?_
  · simp only [SQ, SQB, zm, AOp.opds, step, Opd.get, zk, bin, zc, IntKind.signed, zi, zj, zl, zb, unary, ze, zd, za, zo, zr, zh, zf, zg, zp, Cp.isFull, isNil, zq, simprocAttr, -List.reduceReplicate, SQX, V.cells, e1, zC, zn (hmay _ _), hm]
  rintro en2 h2 ⟨f1, rfl⟩
  obtain ⟨⟨mg, mp⟩, ⟨hmg, hmp⟩, hb⟩ := callD_exh (begin_r (base := h2.length) h2 hl)
  refine zw (fun en' h' => en' 4 = .ptr (h2.length + 1 + 1) 0 ∧ h' = bgH h2 p lp mg mp (0, 0)) ?_ ?_
  · simp only [SQ, SQB, zm, AOp.opds, step, Opd.get, zk, bin, zc, IntKind.signed, zi, zj, zl, zb, unary, ze, zd, za, zo, zr, zh, zf, zg, zp, Cp.isFull, isNil, zq, simprocAttr, -List.reduceReplicate, SQX, V.cells, f1, zC, zn hb]
  rintro en3 h3 ⟨g4, rfl⟩
  have hb0 := bgH_0 (h := h2) (x := p) (lv := lp) (mg := mg) (mp := mp) (e := (0, 0))
  have hb1 := bgH_1 (h := h2) (x := p) (lv := lp) (mg := mg) (mp := mp) (e := (0, 0))
  have hb2 := bgH_2 (h := h2) (x := p) (lv := lp) (mg := mg) (mp := mp) (e := (0, 0))
  have hbl : (bgH h2 p lp mg mp (0, 0)).length = h2.length + 3 := by simp [bgH]
  have hbt : ∀ E : Er, ((bgH h2 p lp mg mp (0, 0) ++ [Obj.row 1 1 0 [[fnC 20 (h2.length + 1 + 1)], [fnC 21 (h2.length + 1 + 1)], [fnC 22 (h2.length + 1 + 1)], [fnC 23 (h2.length + 1 + 1)]]]).set (h2.length + 1 + 1) (.box 49 (ckC p lp h2.length (h2.length + 1) E))).take h2.length = h2 := by
    intro E
    rw [app_set hb2, bgH_s2, List.take_append_of_le_length (by simp [bgH]), bgH_take]
  generalize hrow : Obj.row 1 1 0 [[fnC 20 (h2.length + 1 + 1)], [fnC 21 (h2.length + 1 + 1)], [fnC 22 (h2.length + 1 + 1)], [fnC 23 (h2.length + 1 + 1)]] = RW at hbt
  have hH0 : (bgH h2 p lp mg mp (0, 0) ++ [RW])[h2.length]? = some (.mmap (mg.map mEnt)) := app_get hb0
  have hH1 : (bgH h2 p lp mg mp (0, 0) ++ [RW])[h2.length + 1]? = some (.mmap (mp.map mEntV)) := app_get hb1
  have hH2 : (bgH h2 p lp mg mp (0, 0) ++ [RW])[h2.length + 1 + 1]? = some (.box 49 (ckC p lp h2.length (h2.length + 1) (0, 0))) := app_get hb2
  have hH3 : (bgH h2 p lp mg mp (0, 0) ++ [RW])[h2.length + 3]? = some RW := by rw [← hbl]; simp
  have hnew : bgH h2 p lp mg mp (0, 0) ++ [Obj.row 1 1 0 [[fnC 20 (h2.length + 1 + 1)], [fnC 21 (h2.length + 1 + 1)], [fnC 22 (h2.length + 1 + 1)], [fnC 23 (h2.length + 1 + 1)]]] = bgH h2 p lp mg mp (0, 0) ++ [RW] := by rw [hrow]
  generalize hHH : bgH h2 p lp mg mp (0, 0) ++ [RW] = H at hH0 hH1 hH2 hH3 hnew hbt
  generalize hcc : h2.length + 1 + 1 = c at *
  have hf4 := fun a b d e => fill4 (a := fnC a c) (b := fnC b c) (c := fnC d c) (d := fnC e c) ⟨rfl, rfl⟩ ⟨rfl, rfl⟩ ⟨rfl, rfl⟩ ⟨rfl, rfl⟩
  have hgr : ∀ k : Nat, ground (fnC k c) = false := fun _ => rfl
  refine zw (fun en' h' => en' 4 = .ptr c 0 ∧ h' = H.set c (.box 49 (ckC p lp h2.length (h2.length + 1) (R (checkL p))))) ?_ ?_
  · simp only [SQ, SQB, zm, AOp.opds, step, Opd.get, zk, bin, zc, IntKind.signed, zi, zj, zl, zb, unary, ze, zd, za, zo, zr, zh, zf, zg, zp, Cp.isFull, isNil, zq, simprocAttr, -List.reduceReplicate, SQX, V.cells, g4, getParts2, hf4, hgr, hbl, hnew]
    refine WpC_loopI (fun k en h' => ∃ i : Nat, k = 4 - i ∧ i ≤ 4 ∧ en 22 = V.int i ∧ en 21 = V.int 4 ∧ en 20 = .hsl (h2.length + 3) 0 0 4 ∧ en 4 = .ptr c 0 ∧ h' = H ∧ ∀ j, j < i → R (passL p j) = (0, 0)) 4 ⟨0, rfl, Nat.zero_le _, rfl, rfl, rfl, g4, rfl, fun j hj => absurd hj (Nat.not_lt_zero _)⟩ ?_
    rintro k en h' ⟨i, rfl, hi, i22, i21, i20, i4, rfl, hall⟩
    by_cases hh : i < 4
    · have hlt : (i : Int) < 4 := by omega
      have hcell : ∃ k, zi h' 1 i (.hsl (h2.length + 3) 0 0 4) = some (.rptr (h2.length + 3) 0 i 0) ∧ zl h' none (.rptr (h2.length + 3) 0 i 0) = some (fnC k c) ∧ ∀ base, WpF S0 base k [.ptr c 0] h' fun v g => v = .tup [] ∧ g = h'.set c (.box 49 (ckC p lp h2.length (h2.length + 1) (R (passL p i)))) := by
        have : i = 0 ∨ i = 1 ∨ i = 2 ∨ i = 3 := by omega
        rcases this with rfl | rfl | rfl | rfl
        · exact ⟨20, by simp [zi, rowAt, hH3, ← hrow], by simp [zl, rowAt, hH3, ← hrow, zb], fun base => globals_r hl hH2⟩
        · exact ⟨21, by simp [zi, rowAt, hH3, ← hrow], by simp [zl, rowAt, hH3, ← hrow, zb], fun base => threads_r hl hH2⟩
        · exact ⟨22, by simp [zi, rowAt, hH3, ← hrow], by simp [zl, rowAt, hH3, ← hrow, zb], fun base => items_r hl hH2 hH0 hH1 hmg hmp (fun y hy hk => ⟨(hok y hy hk).1, hla y hy hk⟩)⟩
        · exact ⟨23, by simp [zi, rowAt, hH3, ← hrow], by simp [zl, rowAt, hH3, ← hrow, zb], fun base => cycles_r hl hH2 hH1 hmp hsz⟩
      obtain ⟨kf, hix, hld, hpass⟩ := hcell
      have hg2 := fun E : Er => set_get (p := .box 49 (ckC p lp h2.length (h2.length + 1) E)) hH2
      (simp only [SQ, zm, AOp.opds, step, Opd.get, bin, zc, IntKind.signed, zj, zb, unary, ze, zd, za, zo, zr, zh, zf, zg, zp, Cp.isFull, isNil, zq, simprocAttr, -List.reduceReplicate, SQX, V.cells, i22, i21, i20, i4, hlt, hix, hld, zn (hpass _), loadV_p (hg2 _)]; repeat' ((first | refine condQ_i ?_ ?_ | refine guardQ_t ?_ ?_ | refine guardQ_f ?_ ?_) <;> (intro hb; simp only [SQ, zm, AOp.opds, step, Opd.get, bin, zc, IntKind.signed, zj, zb, unary, ze, zd, za, zo, zr, zh, zf, zg, zp, Cp.isFull, isNil, zq, simprocAttr, -List.reduceReplicate, SQX, V.cells, hb, i22, i21, i20, i4, hlt, hix, hld, zn (hpass _), loadV_p (hg2 _)])))
      · have q := of_decide_eq_false (show decide ((R (passL p i)).2 = 0) = false by simpa using ‹(!decide ((R (passL p i)).2 = 0)) = true›)
        rw [pass_bad hh hall q]
      · have q := of_decide_eq_true (show decide ((R (passL p i)).2 = 0) = true by simpa using ‹(!decide ((R (passL p i)).2 = 0)) = false›)
        have e : R (passL p i) = (0, 0) := hit0 (pass_nos p i) q
        refine ⟨4 - (i + 1), by omega, i + 1, rfl, by omega, by rw [wrap_i64 (by omega) (by omega)]; rfl, by rw [e]; exact set_same hH2, fun j hj => ?_⟩
        by_cases w : j = i
        · subst w; exact e
        · exact hall j (by omega)
    · have hi4 : i = 4 := by omega
      subst hi4
      have hlt : ¬ ((4 : Nat) : Int) < 4 := by decide
      simp only [SQ, SQB, zm, AOp.opds, step, Opd.get, bin, zc, IntKind.signed, zj, zb, unary, ze, zd, za, zo, zr, zh, zf, zg, zp, Cp.isFull, isNil, zq, simprocAttr, -List.reduceReplicate, SQX, V.cells, i22, i21, i20, i4, hlt]
      rw [pass_good hall]
      exact (set_same hH2).symm
  rintro en4 h4 ⟨k4, rfl⟩
  have hg2 := fun E : Er => set_get (p := .box 49 (ckC p lp h2.length (h2.length + 1) E)) hH2
  simp only [SQ, SQB, zm, AOp.opds, step, Opd.get, zk, bin, zc, IntKind.signed, zi, zj, zb, unary, ze, zd, za, zo, zr, zh, zf, zg, zp, Cp.isFull, isNil, zq, simprocAttr, -List.reduceReplicate, SQX, V.cells, k4, loadV_p (hg2 _), hbt]
end
section
mutual
def renN (f : ByteArray → ByteArray) : Nd → Nd
  | .mk k s t n o ln l => .mk k (f s) (f t) n o ln (renL f l)
def renL (f : ByteArray → ByteArray) : List Nd → List Nd
  | [] => []
  | x :: r => renN f x :: renL f r
end
theorem renL_map (f : ByteArray → ByteArray) : ∀ l : List Nd, renL f l = l.map (renN f)
  | [] => rfl
  | x :: r => by simp only [renL, List.map_cons, renL_map f r]
section
variable (f : ByteArray → ByteArray)
theorem ren_kind (x : Nd) : (renN f x).kind = x.kind := by cases x; rfl
theorem ren_s (x : Nd) : (renN f x).s = f x.s := by cases x; rfl
theorem ren_t (x : Nd) : (renN f x).t = f x.t := by cases x; rfl
theorem ren_n (x : Nd) : (renN f x).n = x.n := by cases x; rfl
theorem ren_o (x : Nd) : (renN f x).ord = x.ord := by cases x; rfl
theorem ren_line (x : Nd) : (renN f x).line = x.line := by cases x; rfl
theorem ren_l (x : Nd) : (renN f x).l = renL f x.l := by cases x; rfl
theorem ren_len (l : List Nd) : (renL f l).length = l.length := by rw [renL_map, List.length_map]
theorem ren_take (l : List Nd) (i : Nat) : (renL f l).take i = renL f (l.take i) := by rw [renL_map, renL_map, List.map_take]
end
mutual
theorem ren_sz (f : ByteArray → ByteArray) : ∀ x : Nd, szN (renN f x) = szN x
  | .mk _ _ _ _ _ _ l => by simp only [renN, szN, ren_szL f l]
theorem ren_szL (f : ByteArray → ByteArray) : ∀ l : List Nd, szL (renL f l) = szL l
  | [] => rfl
  | x :: r => by simp only [renL, szL, ren_sz f x, ren_szL f r]
end
structure Ren (f : ByteArray → ByteArray) : Prop where
  inj : ∀ s t, f s = f t → s = t
  res : f resT = resT
  emp : f ⟨#[]⟩ = ⟨#[]⟩
  name : ∀ s, zA (f s) = zA s
  size : ∀ s, (f s).size = 0 ↔ s.size = 0
  str : ∀ s, strengthN (f s).data.toList = strengthN s.data.toList
  sgn : ∀ s, ((f s).data.toList = [45] ∨ (f s).data.toList = [33] ∨ (f s).data.toList = [126]) ↔ (s.data.toList = [45] ∨ s.data.toList = [33] ∨ s.data.toList = [126])
section
variable {f : ByteArray → ByteArray} (hf : Ren f)
include hf
theorem ren_fields (k : Int) (s t : ByteArray) (n o ln : Int) : fieldsB zA (.mk k (f s) (f t) n o ln []) = fieldsB zA (.mk k s t n o ln []) := by
  simp only [fieldsB, Nd.kind, Nd.s, Nd.t, Nd.n, Nd.ord, Nd.line, hf.name, hf.str, hf.sgn, hf.size]
mutual
theorem ren_may : ∀ x : Nd, mayN zA (renN f x) = mayN zA x
  | .mk k s t n o ln l => by
    simp only [renN, mayN, ren_fields hf, ren_allN 2 4 l, ren_allN 8 19 l, ren_allN 20 24 l, ren_lastN 5 5 l, ren_lastN 5 6 l, ren_headN l, ren_len]
theorem ren_allN (lo hi : Int) : ∀ l : List Nd, allN zA lo hi (renL f l) = allN zA lo hi l
  | [] => rfl
  | x :: r => by simp only [renL, allN, ren_kind, ren_may x, ren_allN lo hi r]
theorem ren_lastN (lo hi : Int) : ∀ l : List Nd, lastN zA lo hi (renL f l) = lastN zA lo hi l
  | [] => rfl
  | [x] => by simp only [renL, lastN, ren_kind, ren_may x]
  | x :: y :: r => by
    have ih := ren_lastN lo hi (y :: r)
    show ((decide (lo ≤ (renN f x).kind ∧ (renN f x).kind ≤ hi) && mayN zA (renN f x)) && lastN zA lo hi (renL f (y :: r))) = ((decide (lo ≤ x.kind ∧ x.kind ≤ hi) && mayN zA x) && lastN zA lo hi (y :: r))
    rw [ih, ren_kind, ren_may x]
theorem ren_headN : ∀ l : List Nd, headN zA (renL f l) = headN zA l
  | [] => rfl
  | x :: r => by simp only [renL, headN, ren_kind, ren_may x, ren_allN 7 7 r]
end
theorem ren_ok (lo hi : Int) (x : Nd) : okK zA lo hi (renN f x) = okK zA lo hi x := by
  simp only [okK, ren_kind, ren_may hf]
theorem ren_eq (s t : ByteArray) : f s = f t ↔ s = t := ⟨hf.inj s t, fun h => by rw [h]⟩
theorem ren_inB (l : List ByteArray) (s : ByteArray) : inB (l.map f) (f s) = inB l s := by
  induction l with
  | nil => rfl
  | cons t l ih =>
    rw [List.map_cons, inB_cons, inB_cons, ih]
    congr 1
    rw [decide_eq_decide]
    exact ren_eq hf t s
theorem ren_globN (s : ByteArray) (l : List Nd) : globN (f s) (renL f l) = globN s l := by
  unfold globN
  generalize (0 : Int) = a
  induction l generalizing a with
  | nil => rfl
  | cons y r ih =>
    simp only [renL, List.foldl_cons]
    rw [show gStep (f s) a (renN f y) = gStep s a y by simp only [gStep_eq, ren_kind, ren_s, ren_eq hf]]
    exact ih _
theorem ren_res (s : ByteArray) : f s = resT ↔ s = resT := by
  constructor
  · intro h; rw [← hf.res] at h; exact hf.inj _ _ h
  · rintro rfl; exact hf.res
theorem ren_locN (s : ByteArray) (x : Nd) : locN (f s) (renN f x) = locN s x := by
  unfold locN
  simp only [ren_kind, ren_l, list_eq, decide_eq_true_eq, ren_res hf]
  generalize (if x.kind = 3 ∧ s = resT then (1 : Int) else 0) = a
  generalize x.l = l
  induction l generalizing a with
  | nil => rfl
  | cons y r ih =>
    simp only [renL, List.foldl_cons]
    rw [show lStep (f s) a (renN f y) = lStep s a y by simp only [lStep_eq, ren_kind, ren_s, ren_eq hf]]
    exact ih _
theorem ren_kindN (s : ByteArray) (p x : Nd) : kindN (f s) (renN f p) (renN f x) = kindN s p x := by
  simp only [kindN, ren_locN hf, ren_l, ren_globN hf]
theorem ren_zN : renN f zN = zN := by simp only [renN, hf.emp, renL]
theorem ren_procN (l : List Nd) (t : ByteArray) : procN (renL f l) (f t) = renN f (procN l t) := by
  unfold procN
  have : ∀ (l : List Nd) (z : Nd), (renL f l).foldl (fun a y => if y.kind = 3 ∧ y.s = f t then y else a) (renN f z) = renN f (l.foldl (fun a y => if y.kind = 3 ∧ y.s = t then y else a) z) := by
    intro l
    induction l with
    | nil => intro z; rfl
    | cons y r ih =>
      intro z
      simp only [renL, List.foldl_cons, ren_kind, ren_s, ren_eq hf]
      rw [← ih]
      congr 1
      split <;> rfl
  have h := this l zN
  rw [ren_zN hf] at h
  exact h
mutual
theorem ren_walk {K K' A A' : ByteArray → Int} (hK : ∀ s, K' (f s) = K s) (hA : ∀ s, A' (f s) = A s) : ∀ y : Nd, walkL K' A' (renN f y) = walkL K A y
  | .mk k s t _ _ ln l => by simp only [renN, walkL, ren_walks hK hA l, headL, hK, hA, ren_len]
theorem ren_walks {K K' A A' : ByteArray → Int} (hK : ∀ s, K' (f s) = K s) (hA : ∀ s, A' (f s) = A s) : ∀ l : List Nd, walkLs K' A' (renL f l) = walkLs K A l
  | [] => rfl
  | y :: r => by simp only [renL, walkLs, ren_walk hK hA y, ren_walks hK hA r]
end
theorem ren_declF {G G' : ByteArray → Int} (hG : ∀ s, G' (f s) = G s) (y : Nd) (l : List Nd) : declF G' (renN f y) (renL f l) = ((declF G y l).1.map f, (declF G y l).2) := by
  unfold declF
  rw [ren_kind]
  have h0 : ((if y.kind = 3 then [resT] else [], []) : List ByteArray × List Ck) = ((if y.kind = 3 then [resT] else []).map f, []) := by
    split
    · simp only [List.map_cons, List.map_nil, hf.res]
    · rfl
  conv => lhs; rw [h0]
  generalize ((if y.kind = 3 then [resT] else []) : List ByteArray) = a
  generalize ([] : List Ck) = b
  induction l generalizing a b with
  | nil => rfl
  | cons d r ih =>
    simp only [renL, List.foldl_cons]
    rw [show dStep G' (a.map f, b) (renN f d) = ((dStep G (a, b) d).1.map f, (dStep G (a, b) d).2) by
      simp only [dStep, ren_kind, ren_s, ren_line, ren_n, ren_inB hf, hG]
      split <;> rfl]
    exact ih _ _
theorem ren_globF (l : List Nd) : globF (renL f l) = ((globF l).1.map f, (globF l).2) := by
  unfold globF
  have : ∀ (l : List Nd) (a : List ByteArray) (b : Int × List Ck), (renL f l).foldl gStepC (a.map f, b) = ((l.foldl gStepC (a, b)).1.map f, (l.foldl gStepC (a, b)).2) := by
    intro l
    induction l with
    | nil => intros; rfl
    | cons d r ih =>
      intro a b
      simp only [renL, List.foldl_cons]
      rw [show gStepC (a.map f, b) (renN f d) = ((gStepC (a, b) d).1.map f, (gStepC (a, b) d).2) by
        simp only [gStepC, ren_kind, ren_s, ren_line, ren_inB hf]
        split <;> rfl]
      exact ih _ _
  exact this l [] (0, [])
omit hf in
theorem ren_thrF (l : List Nd) : thrF (renL f l) = thrF l := by
  unfold thrF
  generalize ((0, []) : Int × List Ck) = a
  induction l generalizing a with
  | nil => rfl
  | cons d r ih =>
    simp only [renL, List.foldl_cons]
    rw [show tStep a (renN f d) = tStep a d by simp only [tStep, ren_kind, ren_line]]
    exact ih _
theorem ren_getD (l : List Nd) (i : Nat) : (renL f l).getD i zN = renN f (l.getD i zN) := by
  rw [renL_map]
  simp only [List.getD_eq_getElem?_getD, List.getElem?_map]
  cases l[i]? with
  | none => exact (ren_zN hf).symm
  | some x => rfl
theorem ren_itemL (p y : Nd) : itemL (renN f p) (renN f y) = itemL p y := by
  unfold itemL
  rw [ren_l f p, ren_l f y, ren_len, ren_take, ren_declF hf (G := fun s => globN s p.l) (fun s => ren_globN hf s p.l), ren_getD hf, ren_walk hf (K := fun s => kindN s p y) (A := fun t => (procN p.l t).n) (fun s => ren_kindN hf s p y) (fun s => by rw [ren_procN hf, ren_n])]
theorem ren_itemsL (p : Nd) (l : List Nd) : itemsL (renN f p) (renL f l) = itemsL p l := by
  unfold itemsL
  induction l with
  | nil => rfl
  | cons y r ih => simp only [renL, List.flatMap_cons, ih, ren_kind, ren_itemL hf]
mutual
theorem ren_callsN : ∀ (y : Nd) (out : List ByteArray), callsN (renN f y) (out.map f) = (callsN y out).map f
  | .mk k s t _ _ _ l, out => by
    simp only [renN, callsN, ren_inB hf]
    rw [← ren_callsL l]
    congr 1
    split
    · simp
    · rfl
theorem ren_callsL : ∀ (l : List Nd) (out : List ByteArray), callsL (renL f l) (out.map f) = (callsL l out).map f
  | [], out => rfl
  | y :: r, out => by simp only [renL, callsL, ren_callsN y, ren_callsL r]
end
theorem ren_calls0 (y : Nd) : callsN (renN f y) [] = (callsN y []).map f := ren_callsN hf y []
theorem ren_Rch1 {l : List Nd} {s t : ByteArray} (h : Rch l s t) : Rch (renL f l) (f s) (f t) := by
  induction h with
  | refl s => exact .refl _
  | step h1 _ ih =>
    refine .step ?_ ih
    rw [ren_procN hf, ren_calls0 hf]
    exact List.mem_map.2 ⟨_, h1, rfl⟩
theorem ren_Rch2 {l : List Nd} {s' t' : ByteArray} (h : Rch (renL f l) s' t') : ∀ s t, s' = f s → t' = f t → Rch l s t := by
  induction h with
  | refl a =>
    intro s t h1 h2
    have := hf.inj _ _ (h1.symm.trans h2)
    subst this
    exact .refl _
  | step h1 _ ih =>
    intro s t e1 e2
    subst e1
    rw [ren_procN hf, ren_calls0 hf] at h1
    obtain ⟨u, hu, e⟩ := List.mem_map.1 h1
    exact .step hu (ih u t e.symm e2)
theorem ren_cycB (l : List Nd) (y : Nd) : cycB (renL f l) (renN f y) = cycB l y := by
  have : cyc (renL f l) (renN f y) ↔ cyc l y := by
    unfold cyc
    rw [ren_calls0 hf, ren_s]
    constructor
    · rintro ⟨s', h1, h2⟩
      obtain ⟨s, hs, rfl⟩ := List.mem_map.1 h1
      exact ⟨s, hs, ren_Rch2 hf h2 s _ rfl rfl⟩
    · rintro ⟨s, h1, h2⟩
      exact ⟨f s, List.mem_map.2 ⟨s, h1, rfl⟩, ren_Rch1 hf h2⟩
  by_cases q : cyc l y
  · rw [cycB_t q, cycB_t (this.2 q)]
  · rw [cycB_f q, cycB_f (fun w => q (this.1 w))]
theorem ren_cycL (p l : List Nd) : cycL (renL f p) (renL f l) = cycL p l := by
  unfold cycL
  induction l with
  | nil => rfl
  | cons y r ih => simp only [renL, List.flatMap_cons, ih, ren_kind, ren_cycB hf, ren_line]
theorem ren_check (p : Nd) : checkL (renN f p) = checkL p := by
  unfold checkL thrL
  rw [ren_l, ren_globF hf, ren_thrF, ren_itemsL hf, ren_cycL hf]
end
def othB (a b s : ByteArray) : ByteArray := if s = a then b else if s = b then a else s
theorem name_str {s : ByteArray} (h : zA s = true) : s.size ≠ 0 ∧ strengthN s.data.toList = 0 ∧ ¬ (s.data.toList = [45] ∨ s.data.toList = [33] ∨ s.data.toList = [126]) := by
  simp only [zA, Bool.and_eq_true, decide_eq_true_eq] at h
  obtain ⟨⟨⟨h1, h2⟩, _⟩, _⟩ := h
  cases hl : s.data.toList with
  | nil => rw [hl] at h2; simp at h2
  | cons c r =>
    rw [hl] at h2
    simp only at h2
    refine ⟨by omega, ?_, ?_⟩
    · have key : ∀ d : UInt8, letterB d.toNat = false → c ≠ d := by rintro d hd rfl; rw [hd] at h2; simp at h2
      have k := fun (d : UInt8) (hd : letterB d.toNat = false) => key d hd
      simp only [strengthN, List.cons.injEq, k 61 (by decide), k 33 (by decide), k 60 (by decide), k 62 (by decide), k 124 (by decide), k 94 (by decide), k 38 (by decide), k 43 (by decide), k 45 (by decide), k 42 (by decide), k 47 (by decide), k 37 (by decide), false_and, or_self, if_false]
    · have key : ∀ d : UInt8, letterB d.toNat = false → c ≠ d := by rintro d hd rfl; rw [hd] at h2; simp at h2
      simp only [List.cons.injEq, key 45 (by decide), key 33 (by decide), key 126 (by decide), false_and, or_self, not_false_eq_true]
theorem oth_ren {a b : ByteArray} (ha : zA a = true) (hb : zA b = true) (ra : a ≠ resT) (rb : b ≠ resT) : Ren (othB a b) := by
  obtain ⟨a1, a2, a3⟩ := name_str ha
  obtain ⟨b1, b2, b3⟩ := name_str hb
  have ea : (⟨#[]⟩ : ByteArray) ≠ a := by rintro rfl; exact a1 rfl
  have eb : (⟨#[]⟩ : ByteArray) ≠ b := by rintro rfl; exact b1 rfl
  refine ⟨?_, ?_, ?_, ?_, ?_, ?_, ?_⟩
  · intro s t h
    unfold othB at h
    by_cases h1 : s = a <;> by_cases h2 : s = b <;> by_cases h3 : t = a <;> by_cases h4 : t = b <;> simp_all
  · unfold othB; rw [if_neg (fun h => ra h.symm), if_neg (fun h => rb h.symm)]
  · unfold othB; rw [if_neg ea, if_neg eb]
  · intro s
    unfold othB
    split
    · rename_i h; rw [h, ha, hb]
    · split
      · rename_i h; rw [h, ha, hb]
      · rfl
  · intro s
    unfold othB
    split
    · rename_i h; rw [h]; exact ⟨fun q => absurd q b1, fun q => absurd q a1⟩
    · split
      · rename_i h; rw [h]; exact ⟨fun q => absurd q a1, fun q => absurd q b1⟩
      · exact Iff.rfl
  · intro s
    unfold othB
    split
    · rename_i h; rw [h, a2, b2]
    · split
      · rename_i h; rw [h, a2, b2]
      · rfl
  · intro s
    unfold othB
    split
    · rename_i h; rw [h]; exact ⟨fun q => absurd q b3, fun q => absurd q a3⟩
    · split
      · rename_i h; rw [h]; exact ⟨fun q => absurd q a3, fun q => absurd q b3⟩
      · exact Iff.rfl
end
section
theorem R_skip {a b : List Ck} (ha : nosL a) (h : R a = (0, 0)) : R (a ++ b) = R b := by rw [R_app ha, h]; rfl
set_option maxHeartbeats 16000000 in
theorem refCheck_r {base : Nat} {p : Nd} {cp : List V} (h : Heap) (hp : NdV p cp) (hsz : szN p ≤ 1500) : WpF S0 base k_spinnakerref25_Check [.agg cp] h fun v h' => v = .tup [.sc (.int .i64 (if okK zA 1 1 p then (R (checkL p)).1 else 0)), .sc (.int .i64 (if okK zA 1 1 p then (R (checkL p)).2 else 21))] ∧ h' = h := by
  have hmay := fun base h => refMay_r (base := base) h hp
  have hitem := fun (y : Nd) base (cy : List V) h (hy : NdV y cy) => refItem_r (base := base) (p := p) (y := y) (cs := cy) h hp hy
  have hproc := fun base s h => refProc_r (base := base) (p := p) s h hp
  obtain ⟨lp, rfl, hl⟩ := hp.open
  have ll := hl.len
  have lt := hl.lt
  have hlm : lim = 2 ^ 36 := rfl
  have hszL := szN_eq p
  first | refine zu (A := f_spinnakerref25_Check) rfl rfl rfl rfl ?_ | refine zB (A := f_spinnakerref25_Check) rfl rfl rfl rfl ?_
  simp only [f_spinnakerref25_Check, oD, cD]
  refine zw (fun en' h' => en' 1 = .eptr (ndC p lp) 0 ∧ h' = h) ?_ ?_
  · simp only [SQ, SQB, zm, AOp.opds, step, Opd.get, zk, bin, zc, IntKind.signed, zi, zj, zl, zb, unary, ze, zd, za, zo, zr, zh, zf, zg, zp, Cp.isFull, isNil, zq, simprocAttr, SQX, V.cells, hl.gr]
  rintro en1 h1 ⟨e1, rfl⟩
  cases hm : okK zA 1 1 p
  · simp only [SQ, SQB, zm, AOp.opds, step, Opd.get, zk, bin, zc, IntKind.signed, zi, zj, zl, zb, unary, ze, zd, za, zo, zr, zh, zf, zg, zp, Cp.isFull, isNil, zq, simprocAttr, SQX, V.cells, e1, zC, zn (hmay _ _), hm]
  simp only [if_true]
  have hok := may_items hm
  refine zw (fun en' h' => en' 1 = .eptr (ndC p lp) 0 ∧ h' = h1) ?_ ?_
  · simp only [SQ, SQB, zm, AOp.opds, step, Opd.get, zk, bin, zc, IntKind.signed, zi, zj, zl, zb, unary, ze, zd, za, zo, zr, zh, zf, zg, zp, Cp.isFull, isNil, zq, simprocAttr, SQX, V.cells, e1, zC, zn (hmay _ _), hm]
  rintro en2 h2 ⟨f1, rfl⟩
  refine zw (fun en' h' => en' 1 = .eptr (ndC p lp) 0 ∧ en' 4 = .sc (.int .i64 0) ∧ h' = h2) ?_ ?_
  · simp only [SQ, SQB, zm, AOp.opds, step, Opd.get, zk, bin, zc, IntKind.signed, zi, zj, zl, zb, unary, ze, zd, za, zo, zr, zh, zf, zg, zp, Cp.isFull, isNil, zq, simprocAttr, SQX, V.cells, f1]
  rintro en3 h3 ⟨g1, g4, rfl⟩
  have sz1 : nosL (globF p.l).2.2 := globF_nos p.l
  refine WpC_cutR (fun en' h' => en' 1 = .eptr (ndC p lp) 0 ∧ R (globF p.l).2.2 = (0, 0) ∧ h' = h3) ?_ ?_
  · simp only [SQ, SQB, zm, AOp.opds, step, Opd.get, zk, bin, zc, IntKind.signed, zi, zj, zl, zb, unary, ze, zd, za, zo, zr, zh, zf, zg, zp, Cp.isFull, isNil, zq, simprocAttr, SQX, V.cells, g1, g4]
    refine WpC_loopI (fun k en h' => ∃ i : Nat, k = p.l.length - i ∧ i ≤ p.l.length ∧ en 5 = V.int i ∧ en 1 = .eptr (ndC p lp) 0 ∧ en 4 = .sc (.int .i64 (globF (p.l.take i)).2.1) ∧ (globF (p.l.take i)).2.1 ≤ 200 ∧ R (globF (p.l.take i)).2.2 = (0, 0) ∧ h' = h3) p.l.length ⟨0, rfl, Nat.zero_le _, rfl, g1, g4, show (0 : Int) ≤ 200 by decide, rfl, rfl⟩ ?_
    rintro k en h' ⟨i, rfl, hi, i5, i1, i4, hc, hR, rfl⟩
    by_cases hh : i < p.l.length
    · obtain ⟨r, hr1, hr2⟩ := hl.get hh
      obtain ⟨lv2, rfl, hl2⟩ := hr2.open
      have hf : globF (p.l.take (i + 1)) = gStepC (globF (p.l.take i)) p.l[i] := foldl_take hh
      have hseen := gseen_iff (l := p.l) p.l[i].s (i := i) (by omega)
      have hnos := globF_nos (p.l.take i)
      have hle := (globF_le (p.l.take i) ([], 0, [])).1
      have hpre : (R (globF (p.l.take (i + 1))).2.2).2 ≠ 0 → R (checkL p) = R (globF (p.l.take (i + 1))).2.2 := by
        intro hne
        obtain ⟨m, hm2⟩ := fold_pre (f := gStepC) (g := fun a : List ByteArray × Int × List Ck => a.2.2) gStepC_ext p.l ([], 0, []) (i + 1)
        have : checkL p = (globF (p.l.take (i + 1))).2.2 ++ (m ++ (thrL p.l ++ (itemsL p p.l ++ cycL p.l p.l))) := by
          rw [← List.append_assoc]
          show (globF p.l).2.2 ++ _ = _
          rw [show (globF p.l).2.2 = (globF (p.l.take (i + 1))).2.2 ++ m from hm2]
        rw [this]
        exact R_pre hne
      change 0 ≤ (globF (p.l.take i)).2.1 at hle
      generalize globF (p.l.take i) = st at hf hseen hnos hR hc i4 hle
      have hadd : IntKind.i64.wrap (st.2.1 + 1) = st.2.1 + 1 := wrap_i64 (by omega) (by omega)
      have hk4 : p.l[i].kind = 4 → globF (p.l.take (i + 1)) = st := fun q => by rw [hf]; unfold gStepC; rw [if_pos q]
      have hRi : p.l[i].kind ≠ 4 → R (globF (p.l.take (i + 1))).2.2 = R ((inB st.1 p.l[i].s, p.l[i].line, 24) :: (if p.l[i].kind = 2 then [(decide (st.2.1 = 200), p.l[i].line, 30)] else [])) := by
        intro q
        rw [hf]
        unfold gStepC
        rw [if_neg q]
        exact R_skip hnos hR
      have hcn : p.l[i].kind ≠ 4 → (globF (p.l.take (i + 1))).2.1 = if p.l[i].kind = 2 then st.2.1 + 1 else st.2.1 := by
        intro q
        rw [hf]
        unfold gStepC
        rw [if_neg q]
      (simp only [SQ, zm, AOp.opds, step, Opd.get, bin, zc, IntKind.signed, zj, zl, zb, unary, ze, zd, za, zo, zr, zh, zf, zg, zp, Cp.isFull, isNil, zq, simprocAttr, SQX, V.cells, i5, i1, i4, ll, hh, hr1, zC, hl2.gr]; repeat' ((first | refine condQ_i ?_ ?_ | refine guardQ_t ?_ ?_ | refine guardQ_f ?_ ?_) <;> (intro hb; simp only [SQ, zm, AOp.opds, step, Opd.get, bin, zc, IntKind.signed, zj, zl, zb, unary, ze, zd, za, zo, zr, zh, zf, zg, zp, Cp.isFull, isNil, zq, simprocAttr, SQX, V.cells, hb, i5, i1, i4, ll, hh, hr1, zC, hl2.gr])))
      · have q := of_decide_eq_true (by assumption)
        refine ⟨p.l.length - (i + 1), by omega, i + 1, rfl, by omega, by rw [wrap_i64 (by omega) (by omega)]; rfl, ?_⟩
        rw [hk4 q]
        exact ⟨rfl, hc, hR⟩
      have q4 := of_decide_eq_false (by assumption)
      have hRi := hRi q4
      have hcn := hcn q4
      refine WpC_loopI (fun k en g' => ∃ j : Nat, k = i - j ∧ j ≤ i ∧ en 7 = V.int j ∧ en 5 = V.int i ∧ en 1 = .eptr (ndC p lp) 0 ∧ en 4 = .sc (.int .i64 st.2.1) ∧ en 6 = .eptr (ndC p.l[i] lv2) 0 ∧ (∀ m (hm : m < p.l.length), m < j → p.l[m].kind ≠ 4 → p.l[m].s ≠ p.l[i].s) ∧ g' = h') i ⟨0, rfl, Nat.zero_le _, rfl, i5, i1, i4, rfl, fun m hm h => absurd h (Nat.not_lt_zero _), rfl⟩ ?_
      rintro k en g' ⟨j, rfl, hj, j7, j5, j1, j4, j6, hne, rfl⟩
      by_cases hh2 : j < i
      · have hjl : j < p.l.length := by omega
        obtain ⟨r, hr3, hr4⟩ := hl.get hjl
        obtain ⟨lv3, rfl, hl3⟩ := hr4.open
        (simp only [SQ, zm, AOp.opds, step, Opd.get, bin, zc, IntKind.signed, zj, zl, zb, unary, ze, zd, za, zo, zr, zh, zf, zg, zp, Cp.isFull, isNil, zq, simprocAttr, SQX, V.cells, j7, j5, j1, j4, j6, hh2, hr3, zE, list_eq]; repeat' ((first | refine condQ_i ?_ ?_ | refine guardQ_t ?_ ?_ | refine guardQ_f ?_ ?_) <;> (intro hb; simp only [SQ, zm, AOp.opds, step, Opd.get, bin, zc, IntKind.signed, zj, zl, zb, unary, ze, zd, za, zo, zr, zh, zf, zg, zp, Cp.isFull, isNil, zq, simprocAttr, SQX, V.cells, hb, j7, j5, j1, j4, j6, hh2, hr3, zE, list_eq])))
        · have a := of_decide_eq_false (show decide (p.l[j].kind = 4) = false by simpa using ‹(!decide (p.l[j].kind = 4)) = true›)
          have b := of_decide_eq_true (show decide (p.l[j].s = p.l[i].s) = true by assumption)
          have e : R (globF (p.l.take (i + 1))).2.2 = (p.l[i].line, 24) := by
            rw [hRi, hseen.2 ⟨j, hjl, hh2, a, b⟩]
            cases (if p.l[i].kind = 2 then [((decide (st.2.1 = 200), p.l[i].line, 30) : Ck)] else []) <;> simp [R, hitE, wrongE, List.foldl]
            exact hit_stop (by simp) _
          rw [hpre (by rw [e]; simp), e]
        · have b := of_decide_eq_false (show decide (p.l[j].s = p.l[i].s) = false by assumption)
          refine ⟨i - (j + 1), by omega, j + 1, rfl, by omega, by rw [wrap_i64 (by omega) (by omega)]; rfl, fun m hm h hk => ?_⟩
          by_cases e : m = j
          · subst e; exact b
          · exact hne m hm (by omega) hk
        · have a := of_decide_eq_true (show decide (p.l[j].kind = 4) = true by simpa using ‹(!decide (p.l[j].kind = 4)) = false›)
          refine ⟨i - (j + 1), by omega, j + 1, rfl, by omega, by rw [wrap_i64 (by omega) (by omega)]; rfl, fun m hm h hk => ?_⟩
          by_cases e : m = j
          · subst e; exact absurd a hk
          · exact hne m hm (by omega) hk
      · have hji : j = i := by omega
        have hin : inB st.1 p.l[i].s = false := by
          rw [← Bool.not_eq_true]
          intro q
          obtain ⟨m, hm, q1, q2, q3⟩ := hseen.1 q
          exact hne m hm (by omega) q2 q3
        rw [hin] at hRi
        (simp only [SQ, zm, AOp.opds, step, Opd.get, bin, zc, IntKind.signed, zj, zl, zb, unary, ze, zd, za, zo, zr, zh, zf, zg, zp, Cp.isFull, isNil, zq, simprocAttr, SQX, V.cells, j7, j5, j1, j4, j6, hh2, hadd]; repeat' ((first | refine condQ_i ?_ ?_ | refine guardQ_t ?_ ?_ | refine guardQ_f ?_ ?_) <;> (intro hb; simp only [SQ, zm, AOp.opds, step, Opd.get, bin, zc, IntKind.signed, zj, zl, zb, unary, ze, zd, za, zo, zr, zh, zf, zg, zp, Cp.isFull, isNil, zq, simprocAttr, SQX, V.cells, hb, j7, j5, j1, j4, j6, hh2, hadd])))
        · have k2 := of_decide_eq_true (show decide (p.l[i].kind = 2) = true by assumption)
          have hg := of_decide_eq_true (show decide (200 < st.2.1 + 1) = true by assumption)
          have e : R (globF (p.l.take (i + 1))).2.2 = (p.l[i].line, 30) := by
            rw [hRi, if_pos k2, decide_eq_true (show st.2.1 = 200 by omega)]
            simp [R, hitE, wrongE]
          rw [hpre (by rw [e]; simp), e]
        · have k2 := of_decide_eq_true (show decide (p.l[i].kind = 2) = true by assumption)
          have hg := of_decide_eq_false (show decide (200 < st.2.1 + 1) = false by assumption)
          refine ⟨p.l.length - (i + 1), by omega, i + 1, rfl, by omega, by rw [wrap_i64 (by omega) (by omega)]; rfl, ?_⟩
          rw [hcn, if_pos k2, hRi, if_pos k2, decide_eq_false (show ¬ st.2.1 = 200 by omega)]
          exact ⟨rfl, by omega, by simp [R, hitE, wrongE]⟩
        · have hg := of_decide_eq_true (show decide (200 < st.2.1) = true by assumption)
          omega
        · have k2 := of_decide_eq_false (show decide (p.l[i].kind = 2) = false by assumption)
          refine ⟨p.l.length - (i + 1), by omega, i + 1, rfl, by omega, by rw [wrap_i64 (by omega) (by omega)]; rfl, ?_⟩
          rw [hcn, if_neg k2, hRi, if_neg k2]
          exact ⟨rfl, hc, by simp [R, hitE, wrongE]⟩
    · have : p.l.take i = p.l := List.take_of_length_le (by omega)
      rw [this] at hR
      simp only [SQ, SQB, zm, AOp.opds, step, Opd.get, bin, zc, IntKind.signed, zj, zl, zb, unary, ze, zd, za, zo, zr, zh, zf, zg, zp, Cp.isFull, isNil, zq, simprocAttr, SQX, V.cells, i5, i1, i4, ll, hh]
      exact hR
  rintro en4 h4 ⟨e1, hR1, rfl⟩
  have hC1 : R (checkL p) = R (thrL p.l ++ (itemsL p p.l ++ cycL p.l p.l)) := R_skip sz1 hR1
  rw [hC1]
  clear hC1 hR1 sz1
  refine zw (fun en' h' => en' 1 = .eptr (ndC p lp) 0 ∧ en' 8 = .sc (.int .i64 0) ∧ h' = h4) ?_ ?_
  · simp only [SQ, SQB, zm, AOp.opds, step, Opd.get, zk, bin, zc, IntKind.signed, zi, zj, zl, zb, unary, ze, zd, za, zo, zr, zh, zf, zg, zp, Cp.isFull, isNil, zq, simprocAttr, SQX, V.cells, e1]
  rintro en5 h5 ⟨e1, e8, rfl⟩
  refine WpC_cutR (fun en' h' => en' 1 = .eptr (ndC p lp) 0 ∧ en' 8 = .sc (.int .i64 (thrF p.l).1) ∧ R (thrF p.l).2 = (0, 0) ∧ h' = h5) ?_ ?_
  · simp only [SQ, SQB, zm, AOp.opds, step, Opd.get, zk, bin, zc, IntKind.signed, zi, zj, zl, zb, unary, ze, zd, za, zo, zr, zh, zf, zg, zp, Cp.isFull, isNil, zq, simprocAttr, SQX, V.cells, e1, e8]
    refine WpC_loopI (fun k en h' => ∃ i : Nat, k = p.l.length - i ∧ i ≤ p.l.length ∧ en 9 = V.int i ∧ en 1 = .eptr (ndC p lp) 0 ∧ en 8 = .sc (.int .i64 (thrF (p.l.take i)).1) ∧ (thrF (p.l.take i)).1 ≤ 8 ∧ R (thrF (p.l.take i)).2 = (0, 0) ∧ h' = h5) p.l.length ⟨0, rfl, Nat.zero_le _, rfl, e1, e8, show (0 : Int) ≤ 8 by decide, rfl, rfl⟩ ?_
    rintro k en h' ⟨i, rfl, hi, i9, i1, i8, hc, hR, rfl⟩
    by_cases hh : i < p.l.length
    · obtain ⟨r, hr1, hr2⟩ := hl.get hh
      obtain ⟨lv2, rfl, hl2⟩ := hr2.open
      have hf : thrF (p.l.take (i + 1)) = tStep (thrF (p.l.take i)) p.l[i] := foldl_take hh
      have hnos := thrF_nos (p.l.take i)
      have hle := (thrF_le (p.l.take i) (0, [])).1
      have hpre : (R (thrF (p.l.take (i + 1))).2).2 ≠ 0 → R (thrL p.l ++ (itemsL p p.l ++ cycL p.l p.l)) = R (thrF (p.l.take (i + 1))).2 := by
        intro hne
        obtain ⟨m, hm2⟩ := fold_pre (f := tStep) (g := fun a : Int × List Ck => a.2) tStep_ext p.l (0, []) (i + 1)
        unfold thrL
        rw [show (thrF p.l).2 = (thrF (p.l.take (i + 1))).2 ++ m from hm2, List.append_assoc, List.append_assoc]
        exact R_pre hne
      change 0 ≤ (thrF (p.l.take i)).1 at hle
      generalize thrF (p.l.take i) = st at hf hnos hR hc i8 hle
      have hadd : IntKind.i64.wrap (st.1 + 1) = st.1 + 1 := wrap_i64 (by omega) (by omega)
      have hk4 : p.l[i].kind ≠ 4 → thrF (p.l.take (i + 1)) = st := fun q => by rw [hf]; unfold tStep; rw [if_neg q]
      have hRi : p.l[i].kind = 4 → R (thrF (p.l.take (i + 1))).2 = R [(decide (st.1 = 8), p.l[i].line, 29)] := by
        intro q
        rw [hf]
        unfold tStep
        rw [if_pos q]
        exact R_skip hnos hR
      have hcn : p.l[i].kind = 4 → (thrF (p.l.take (i + 1))).1 = st.1 + 1 := by
        intro q
        rw [hf]
        unfold tStep
        rw [if_pos q]
      (simp only [SQ, zm, AOp.opds, step, Opd.get, bin, zc, IntKind.signed, zj, zl, zb, unary, ze, zd, za, zo, zr, zh, zf, zg, zp, Cp.isFull, isNil, zq, simprocAttr, SQX, V.cells, i9, i1, i8, ll, hh, hr1, zC, hl2.gr, hadd]; repeat' ((first | refine condQ_i ?_ ?_ | refine guardQ_t ?_ ?_ | refine guardQ_f ?_ ?_) <;> (intro hb; simp only [SQ, zm, AOp.opds, step, Opd.get, bin, zc, IntKind.signed, zj, zl, zb, unary, ze, zd, za, zo, zr, zh, zf, zg, zp, Cp.isFull, isNil, zq, simprocAttr, SQX, V.cells, hb, i9, i1, i8, ll, hh, hr1, zC, hl2.gr, hadd])))
      · have k2 := of_decide_eq_true (show decide (p.l[i].kind = 4) = true by assumption)
        have hg := of_decide_eq_true (show decide (8 < st.1 + 1) = true by assumption)
        have e : R (thrF (p.l.take (i + 1))).2 = (p.l[i].line, 29) := by
          rw [hRi k2, decide_eq_true (show st.1 = 8 by omega)]
          simp [R, hitE, wrongE]
        rw [hpre (by rw [e]; simp), e]
      · have k2 := of_decide_eq_true (show decide (p.l[i].kind = 4) = true by assumption)
        have hg := of_decide_eq_false (show decide (8 < st.1 + 1) = false by assumption)
        refine ⟨p.l.length - (i + 1), by omega, i + 1, rfl, by omega, by rw [wrap_i64 (by omega) (by omega)]; rfl, ?_⟩
        rw [hcn k2, hRi k2, decide_eq_false (show ¬ st.1 = 8 by omega)]
        exact ⟨rfl, by omega, by simp [R, hitE, wrongE]⟩
      · have hg := of_decide_eq_true (show decide (8 < st.1) = true by assumption)
        omega
      · have k2 := of_decide_eq_false (show decide (p.l[i].kind = 4) = false by assumption)
        refine ⟨p.l.length - (i + 1), by omega, i + 1, rfl, by omega, by rw [wrap_i64 (by omega) (by omega)]; rfl, ?_⟩
        rw [hk4 k2]
        exact ⟨rfl, hc, hR⟩
    · have : p.l.take i = p.l := List.take_of_length_le (by omega)
      rw [this] at hR i8
      simp only [SQ, SQB, zm, AOp.opds, step, Opd.get, bin, zc, IntKind.signed, zj, zl, zb, unary, ze, zd, za, zo, zr, zh, zf, zg, zp, Cp.isFull, isNil, zq, simprocAttr, SQX, V.cells, i9, i1, i8, ll, hh]
      exact hR
  rintro en6 h6 ⟨e1, e8, hR2, rfl⟩
  have hT : R (thrL p.l) = if (thrF p.l).1 = 0 then (0, 29) else (0, 0) := by
    unfold thrL
    rw [R_skip (thrF_nos _) hR2]
    by_cases q : (thrF p.l).1 = 0 <;> simp [q, R, hitE, wrongE]
  refine WpC_cutR (fun en' h' => en' 1 = .eptr (ndC p lp) 0 ∧ R (thrL p.l) = (0, 0) ∧ h' = h6) ?_ ?_
  · (simp only [SQ, zm, AOp.opds, step, Opd.get, zk, bin, zc, IntKind.signed, zi, zj, zl, zb, unary, ze, zd, za, zo, zr, zh, zf, zg, zp, Cp.isFull, isNil, zq, simprocAttr, SQX, V.cells, e1, e8]; repeat' ((first | refine condQ_i ?_ ?_ | refine guardQ_t ?_ ?_ | refine guardQ_f ?_ ?_) <;> (intro hb; simp only [SQ, zm, AOp.opds, step, Opd.get, zk, bin, zc, IntKind.signed, zi, zj, zl, zb, unary, ze, zd, za, zo, zr, zh, zf, zg, zp, Cp.isFull, isNil, zq, simprocAttr, SQX, V.cells, hb, e1, e8])))
    · have q := of_decide_eq_true (by assumption)
      rw [if_pos q] at hT
      rw [R_pre (by rw [hT]; simp), hT]
    · have q := of_decide_eq_false (by assumption)
      rw [if_neg q] at hT
      exact hT
  rintro en7 h7 ⟨e1, hR3, rfl⟩
  rw [R_skip (thrL_nos _) hR3]
  clear hT hR3 hR2
  refine WpC_cutR (fun en' h' => en' 1 = .eptr (ndC p lp) 0 ∧ R (itemsL p p.l) = (0, 0) ∧ h' = h7) ?_ ?_
  · simp only [SQ, SQB, zm, AOp.opds, step, Opd.get, zk, bin, zc, IntKind.signed, zi, zj, zl, zb, unary, ze, zd, za, zo, zr, zh, zf, zg, zp, Cp.isFull, isNil, zq, simprocAttr, SQX, V.cells, e1]
    refine WpC_loopI (fun k en h' => ∃ i : Nat, k = p.l.length - i ∧ i ≤ p.l.length ∧ en 10 = V.int i ∧ en 1 = .eptr (ndC p lp) 0 ∧ R (itemsL p (p.l.take i)) = (0, 0) ∧ h' = h7) p.l.length ⟨0, rfl, Nat.zero_le _, rfl, e1, rfl, rfl⟩ ?_
    rintro k en h' ⟨i, rfl, hi, i10, i1, hR, rfl⟩
    by_cases hh : i < p.l.length
    · obtain ⟨r, hr1, hr2⟩ := hl.get hh
      obtain ⟨lv2, rfl, hl2⟩ := hr2.open
      have hf := itemsL_take (p := p) hh
      have hnos := itemsL_nos p (p.l.take i)
      have hRi : R (itemsL p (p.l.take (i + 1))) = R (if p.l[i].kind = 2 then [] else itemL p p.l[i]) := by
        rw [hf]
        exact R_skip hnos hR
      have hpre : (R (itemsL p (p.l.take (i + 1)))).2 ≠ 0 → R (itemsL p p.l ++ cycL p.l p.l) = R (itemsL p (p.l.take (i + 1))) := by
        intro hne
        have : itemsL p p.l = itemsL p (p.l.take (i + 1)) ++ itemsL p (p.l.drop (i + 1)) := by
          unfold itemsL
          rw [← List.flatMap_append, List.take_append_drop]
        rw [this, List.append_assoc]
        exact R_pre hne
      by_cases k2 : p.l[i].kind = 2
      · have d2 := decide_eq_true k2
        simp only [SQ, SQB, zm, AOp.opds, step, Opd.get, bin, zc, IntKind.signed, zj, zl, zb, unary, ze, zd, za, zo, zr, zh, zf, zg, zp, Cp.isFull, isNil, zq, simprocAttr, SQX, V.cells, i10, i1, ll, hh, hr1, d2]
        exact ⟨p.l.length - (i + 1), by omega, i + 1, rfl, by omega, by rw [wrap_i64 (by omega) (by omega)]; rfl, by rw [hRi, if_pos k2]; rfl⟩
      · have d2 := decide_eq_false k2
        obtain ⟨o1, o2⟩ := hok p.l[i] (List.getElem_mem hh) k2
        have hw := fun base h => hitem p.l[i] base _ h hr2 o1 o2
        rw [if_neg k2] at hRi
        (simp only [SQ, zm, AOp.opds, step, Opd.get, bin, zc, IntKind.signed, zj, zl, zb, unary, ze, zd, za, zo, zr, zh, zf, zg, zp, Cp.isFull, isNil, zq, simprocAttr, SQX, V.cells, i10, i1, ll, hh, hr1, d2, zC, zn (hw _ _)]; repeat' ((first | refine condQ_i ?_ ?_ | refine guardQ_t ?_ ?_ | refine guardQ_f ?_ ?_) <;> (intro hb; simp only [SQ, zm, AOp.opds, step, Opd.get, bin, zc, IntKind.signed, zj, zl, zb, unary, ze, zd, za, zo, zr, zh, zf, zg, zp, Cp.isFull, isNil, zq, simprocAttr, SQX, V.cells, hb, i10, i1, ll, hh, hr1, d2, zC, zn (hw _ _)])))
        · have q := of_decide_eq_false (show decide ((R (itemL p p.l[i])).2 = 0) = false by simpa using ‹(!decide ((R (itemL p p.l[i])).2 = 0)) = true›)
          rw [hpre (by rw [hRi]; exact q), hRi]
        · have q := of_decide_eq_true (show decide ((R (itemL p p.l[i])).2 = 0) = true by simpa using ‹(!decide ((R (itemL p p.l[i])).2 = 0)) = false›)
          exact ⟨p.l.length - (i + 1), by omega, i + 1, rfl, by omega, by rw [wrap_i64 (by omega) (by omega)]; rfl, by rw [hRi]; exact hit0 (itemL_nos _ _) q⟩
    · have : p.l.take i = p.l := List.take_of_length_le (by omega)
      rw [this] at hR
      simp only [SQ, SQB, zm, AOp.opds, step, Opd.get, bin, zc, IntKind.signed, zj, zl, zb, unary, ze, zd, za, zo, zr, zh, zf, zg, zp, Cp.isFull, isNil, zq, simprocAttr, SQX, V.cells, i10, i1, ll, hh]
      exact hR
  rintro en8 h8 ⟨e1, hR4, rfl⟩
  rw [R_skip (itemsL_nos _ _) hR4]
  clear hR4
  refine WpC_cutR (fun en' h' => R (cycL p.l p.l) = (0, 0) ∧ ∃ ext, h' = h8 ++ ext) ?_ ?_
  rotate_left
  · rintro en9 h9 ⟨hR5, ext, rfl⟩
    simp only [SQ, SQB, zm, AOp.opds, step, Opd.get, zk, bin, zc, IntKind.signed, zi, zj, zl, zb, unary, ze, zd, za, zo, zr, zh, zf, zg, zp, Cp.isFull, isNil, zq, simprocAttr, SQX, V.cells, hR5, List.take_left]
  simp only [SQ, SQB, zm, AOp.opds, step, Opd.get, zk, bin, zc, IntKind.signed, zi, zj, zl, zb, unary, ze, zd, za, zo, zr, zh, zf, zg, zp, Cp.isFull, isNil, zq, simprocAttr, SQX, V.cells, e1]
  refine WpC_loopI (fun k en h' => ∃ i : Nat, k = p.l.length - i ∧ i ≤ p.l.length ∧ en 13 = V.int i ∧ en 1 = .eptr (ndC p lp) 0 ∧ R (cycL p.l (p.l.take i)) = (0, 0) ∧ ∃ ext, h' = h8 ++ ext) p.l.length ⟨0, rfl, Nat.zero_le _, rfl, e1, rfl, [], by simp⟩ ?_
  rintro k en h' ⟨i, rfl, hi, i13, i1, hR, ext, rfl⟩
  by_cases hh : i < p.l.length
  · obtain ⟨r, hr1, hr2⟩ := hl.get hh
    obtain ⟨lv2, rfl, hl2⟩ := hr2.open
    have hRi : R (cycL p.l (p.l.take (i + 1))) = R (if p.l[i].kind = 3 then [(cycB p.l p.l[i], p.l[i].line, 27)] else []) := by
      rw [cycL_take hh]
      exact R_skip (cycL_nos _ _) hR
    have hpre : (R (cycL p.l (p.l.take (i + 1)))).2 ≠ 0 → R (cycL p.l p.l) = R (cycL p.l (p.l.take (i + 1))) := by
      intro hne
      have : ∀ l : List Nd, cycL p.l l = cycL p.l (l.take (i + 1)) ++ cycL p.l (l.drop (i + 1)) := by
        intro l
        unfold cycL
        rw [← List.flatMap_append, List.take_append_drop]
      rw [this p.l]
      exact R_pre hne
    by_cases k3 : p.l[i].kind = 3
    rotate_left
    · have d3 := decide_eq_false k3
      simp only [SQ, SQB, zm, AOp.opds, step, Opd.get, bin, zc, IntKind.signed, zj, zl, zb, unary, ze, zd, za, zo, zr, zh, zf, zg, zp, Cp.isFull, isNil, zq, simprocAttr, SQX, V.cells, i13, i1, ll, hh, hr1, d3]
      exact ⟨p.l.length - (i + 1), by omega, i + 1, rfl, by omega, by rw [wrap_i64 (by omega) (by omega)]; rfl, by rw [hRi, if_neg k3]; rfl, ext, rfl⟩
    have d3 := decide_eq_true k3
    rw [if_pos k3] at hRi
    have hcsz := sz_child (List.getElem_mem hh)
    have htl := tgL_len p.l
    simp only [SQ, SQB, zm, AOp.opds, step, Opd.get, bin, zc, IntKind.signed, zj, zl, zb, unary, ze, zd, za, zo, zr, zh, zf, zg, zp, Cp.isFull, isNil, zq, simprocAttr, SQX, V.cells, i13, i1, ll, hh, hr1, d3, zC, callD_some]
    refine (refCalls_r _ p.l[i] (Nat.le_refl _) _ _ (h8 ++ ext) (h8 ++ ext) _ [] hr2 .nil (by simp only [List.length_nil]; omega)).mono ?_
    intro v H hown
    refine WpC_loopI (fun m en g => ∃ k : Nat, ∃ L : List ByteArray, m = (tgL p.l).length - k ∧ en 15 = V.int k ∧ en 13 = V.int i ∧ en 1 = .eptr (ndC p lp) 0 ∧ OwnAt (h8 ++ ext) (en 14) L g ∧ L.Nodup ∧ (∀ s ∈ L, s ∈ tgL p.l) ∧ (∀ s ∈ L, ∃ s0 ∈ callsN p.l[i] [], Rch p.l s0 s) ∧ (∀ s ∈ callsN p.l[i] [], s ∈ L) ∧ k ≤ L.length ∧ ∀ j (hj : j < L.length), j < k → L[j] ≠ p.l[i].s ∧ ∀ u ∈ callsN (procN p.l L[j]) [], u ∈ L) (tgL p.l).length
      ⟨0, callsN p.l[i] [], rfl, rfl, i13, i1, hown, nodup_callsN _ _ List.nodup_nil, fun s hs => by
        rw [mem_callsN] at hs
        rcases hs with hs | hs
        · simp at hs
        · exact tgL_mem (List.getElem_mem hh) hs, fun s hs => ⟨s, hs, .refl s⟩, fun s hs => hs, Nat.zero_le _, fun j hj h => absurd h (Nat.not_lt_zero _)⟩ ?_
    clear hown
    rintro m en g ⟨k, L, rfl, j15, j13, j1, hown, hnd, hU, hre, hcl, hkl, hdone⟩
    have hLl := nodup_len hnd hU
    have hsl := hown.sl (by omega)
    have hslen := hsl.len
    by_cases hk : k < L.length
    · obtain ⟨a, ha, hld⟩ := hsl.get hk
      obtain ⟨lq, hlq, hpw⟩ := callD_ex (f := fun lv => V.agg (ndC (procN p.l L[k]) lv)) (hproc h8.length L[k] g)
      (simp only [SQ, zm, AOp.opds, step, Opd.get, bin, zc, IntKind.signed, zj, zb, unary, ze, zd, za, zo, zr, zh, zf, zg, zp, Cp.isFull, isNil, zq, simprocAttr, SQX, V.cells, j15, j13, j1, hslen, hk, ha, hld, loadV_e, ll, hh, hr1, zC, zE, list_eq, zn hpw, callD_some]; repeat' ((first | refine condQ_i ?_ ?_ | refine guardQ_t ?_ ?_ | refine guardQ_f ?_ ?_) <;> (intro hb; simp only [SQ, zm, AOp.opds, step, Opd.get, bin, zc, IntKind.signed, zj, zb, unary, ze, zd, za, zo, zr, zh, zf, zg, zp, Cp.isFull, isNil, zq, simprocAttr, SQX, V.cells, hb, j15, j13, j1, hslen, hk, ha, hld, loadV_e, ll, hh, hr1, zC, zE, list_eq, zn hpw, callD_some])))
      · have q := of_decide_eq_true (show decide (L[k] = p.l[i].s) = true by assumption)
        obtain ⟨s0, h0, h1⟩ := hre L[k] (List.getElem_mem hk)
        have e : R (cycL p.l (p.l.take (i + 1))) = (p.l[i].line, 27) := by
          rw [hRi, cycB_t ⟨s0, h0, q ▸ h1⟩]
          simp [R, hitE, wrongE]
        rw [hpre (by rw [e]; simp), e]
        rcases hown with ⟨_, _, rfl⟩ | ⟨e', _, rfl⟩
        · simp
        · simp
      · have q := of_decide_eq_false (show decide (L[k] = p.l[i].s) = false by assumption)
        have hps := proc_sz (p := p) L[k]
        refine (refCalls_r _ (procN p.l L[k]) (Nat.le_refl _) _ _ (h8 ++ ext) g _ L hlq.nd hown (by omega)).mono ?_
        intro v' H' hown'
        obtain ⟨more, hmore⟩ := pre_callsN (procN p.l L[k]) L
        refine ⟨(tgL p.l).length - (k + 1), by omega, k + 1, callsN (procN p.l L[k]) L, rfl, by rw [wrap_i64 (by omega) (by omega)]; rfl, hown', nodup_callsN _ _ hnd, fun s hs => ?_, fun s hs => ?_, fun s hs => ?_, ?_, fun j hj hjk => ?_⟩
        · rw [mem_callsN] at hs
          rcases hs with hs | hs
          · exact hU s hs
          · exact proc_tg (t := L[k]) (by rw [mem_callsN]; exact .inr hs)
        · rw [mem_callsN] at hs
          rcases hs with hs | hs
          · exact hre s hs
          · obtain ⟨s0, h0, h1⟩ := hre L[k] (List.getElem_mem hk)
            exact ⟨s0, h0, h1.snoc (by rw [mem_callsN]; exact .inr hs)⟩
        · rw [mem_callsN]; exact .inl (hcl s hs)
        · rw [hmore, List.length_append]; omega
        · have hjL : j < L.length := by omega
          have ej : (callsN (procN p.l L[k]) L)[j] = L[j] := by
            simp only [hmore]
            rw [List.getElem_append_left hjL]
          rw [ej]
          by_cases e : j = k
          · subst e
            refine ⟨q, fun u hu => ?_⟩
            rw [mem_callsN] at hu ⊢
            rcases hu with hu | hu
            · simp at hu
            · exact .inr hu
          · obtain ⟨d1, d2⟩ := hdone j hjL (by omega)
            exact ⟨d1, fun u hu => by rw [mem_callsN]; exact .inl (d2 u hu)⟩
    · have hkL : k = L.length := by omega
      subst hkL
      simp only [SQ, SQB, zm, AOp.opds, step, Opd.get, bin, zc, IntKind.signed, zj, zb, unary, ze, zd, za, zo, zr, zh, zf, zg, zp, Cp.isFull, isNil, zq, simprocAttr, SQX, V.cells, j15, j13, j1, hslen, Nat.lt_irrefl]
      have hno : ¬ cyc p.l p.l[i] := by
        rintro ⟨s0, h0, h1⟩
        have key : ∀ a b, Rch p.l a b → a ∈ L → b ∈ L := by
          intro a b hab
          induction hab with
          | refl a => exact fun h => h
          | step h1 _ ih =>
            intro ha
            obtain ⟨j, hj, rfl⟩ := List.getElem_of_mem ha
            exact ih ((hdone j hj hj).2 _ h1)
        obtain ⟨j, hj, e⟩ := List.getElem_of_mem (key _ _ h1 (hcl _ h0))
        exact (hdone j hj hj).1 e
      refine ⟨p.l.length - (i + 1), by omega, i + 1, rfl, by omega, by rw [wrap_i64 (by omega) (by omega)]; rfl, ?_, ?_⟩
      · rw [hRi, cycB_f hno]
        simp [R, hitE, wrongE]
      · rcases hown with ⟨_, _, rfl⟩ | ⟨e', _, rfl⟩
        · exact ⟨ext, rfl⟩
        · exact ⟨_, List.append_assoc ..⟩
  · have : p.l.take i = p.l := List.take_of_length_le (by omega)
    rw [this] at hR
    simp only [SQ, SQB, zm, AOp.opds, step, Opd.get, bin, zc, IntKind.signed, zj, zl, zb, unary, ze, zd, za, zo, zr, zh, zf, zg, zp, Cp.isFull, isNil, zq, simprocAttr, SQX, V.cells, i13, i1, ll, hh]
    exact ⟨hR, ext, rfl⟩
end
section
theorem chkAwake0 (base : Nat) : evCall Xt Ft 120 base k_spinnakerlaw25_awake [] [] = some (.sc (.bool true), []) := by kernel_rfl
theorem chkAwake1 (base : Nat) (o : Obj) : evCall Xt Ft 120 base k_spinnakerlaw25_awake [] [o] = some (.sc (.bool true), [o]) := by kernel_rfl
theorem aw0 (base : Nat) : WpF S0 base k_spinnakerlaw25_awake [] [] fun v h' => v = .sc (.bool true) ∧ h' = [] := ⟨120, _, _, chkAwake0 base, rfl, rfl⟩
theorem aw1 (base : Nat) (o : Obj) : WpF S0 base k_spinnakerlaw25_awake [] [o] fun v h' => v = .sc (.bool true) ∧ h' = [o] := ⟨120, _, _, chkAwake1 base o, rfl, rfl⟩
theorem OwnAt.aw {v : V} {l : List ByteArray} {H : Heap} (q : OwnAt [] v l H) (base : Nat) : WpF S0 base k_spinnakerlaw25_awake [] H fun v h' => v = .sc (.bool true) ∧ h' = H := by
  rcases q with ⟨rfl, rfl, rfl⟩ | ⟨e, rfl, rfl⟩
  · exact aw0 base
  · exact aw1 base _
end
end Go.Am
