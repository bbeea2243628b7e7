/- The abstract machine and what is proved in it, part 5. -/
import Derived.Test.YtmlidlbchidgdaaGreatDoorAm4
import Derived.Lib.MakeNoZero
import Derived.Laws.Externs
import Derived.Lib.BytesEntry
set_option linter.unusedVariables false
set_option linter.unusedSimpArgs false
namespace Go.Am
section
open Go.RowKit (Below)
theorem eqHeap_iff : ∀ a b : Heap, eqHeap a b = true ↔ a = b
  | [], b => by cases b <;> simp [eqHeap]
  | a :: as, b => by cases b <;> simp only [eqHeap, Bool.false_eq_true, reduceCtorEq, eqObj_iff, eqHeap_iff as, Bool.and_eq_true, List.cons.injEq]
theorem invB_spec {n : Nat} {p q : List Nat} (hi : invB p q = true) : (∀ b, rnI n q (rnI n p b) = b) ∧ (∀ b, rnI n p (rnI n q b) = b) ∧ ∀ b, b < n + p.length → rnI n p b < n + p.length ∧ rnI n q b < n + p.length := by
  simp only [invB, Bool.and_eq_true, beq_iff_eq, List.all_eq_true, List.mem_range, decide_eq_true_eq] at hi
  obtain ⟨hl, hi⟩ := hi
  have out : ∀ (l : List Nat) (j : Nat), l.length ≤ j → l.getD j j = j := fun l j h => by simp [List.getD, List.getElem?_eq_none h]
  refine ⟨fun b => ?_, fun b => ?_, fun b hb => ?_⟩
  · by_cases h1 : b < n
    · simp only [rnI, if_pos h1]
    · by_cases h2 : b - n < p.length
      · obtain ⟨a1, a2, a3, a4⟩ := hi (b - n) h2
        simp only [rnI, if_neg h1]
        rw [if_neg (by omega), Nat.add_sub_cancel_left, a3]
        omega
      · simp only [rnI, if_neg h1]
        rw [out p _ (by omega), if_neg (by omega), Nat.add_sub_cancel_left, out q _ (by omega)]
        omega
  · by_cases h1 : b < n
    · simp only [rnI, if_pos h1]
    · by_cases h2 : b - n < p.length
      · obtain ⟨a1, a2, a3, a4⟩ := hi (b - n) h2
        simp only [rnI, if_neg h1]
        rw [if_neg (by omega), Nat.add_sub_cancel_left, a4]
        omega
      · simp only [rnI, if_neg h1]
        rw [out q _ (by omega), if_neg (by omega), Nat.add_sub_cancel_left, out p _ (by omega)]
        omega
  · by_cases h1 : b < n
    · simp only [rnI, if_pos h1]
      omega
    · obtain ⟨a1, a2, a3, a4⟩ := hi (b - n) (by omega)
      simp only [rnI, if_neg h1]
      omega
theorem rnI_lt {n b : Nat} {p : List Nat} (h : b < n) : rnI n p b = b := if_pos h
theorem mapRn {G : Tie} {f : Nat → Nat} (hf : ∀ b, b < G.n → f b = b) : ∀ {es : List (Value × V)} {l : List MapEntry}, RepM G es l → (es.map fun e => (e.1, rnV f e.2)) = es
  | [], _, _ => rfl
  | e :: es, l, h => by
    simp only [RepM] at h
    obtain ⟨x, r, rfl, _, h3, h4⟩ := h
    rw [List.map_cons, rn_same hf h3.ltn, mapRn hf h4]
theorem rel_obj {G : Tie} {h : Heap} {w : World} {f : Nat → Nat} (R : Rel G h w) (hf : ∀ b, b < G.n → f b = b) {b : Nat} {o : Obj} (e : h[b]? = some o) : rnO f o = o := by
  cases o with
  | dead => rfl
  | box t cs =>
    obtain ⟨_, rs, _, h3⟩ := R.box b t cs e
    simp only [rnO]
    rw [rns_same hf h3.ltn]
  | row t sz ep rows =>
    obtain ⟨_, L, rs, _, _, _, _, _, _, h7⟩ := R.row b t sz ep rows e
    simp only [rnO, Obj.row.injEq, true_and]
    refine (List.map_congr_left fun cs hc => ?_).trans (List.map_id rows)
    obtain ⟨i, hi⟩ := List.getElem?_of_mem hc
    obtain ⟨_, _, h3⟩ := h7 i cs hi
    refine rns_same hf (refsLts_all.2 fun v hv => ?_)
    obtain ⟨j, hj⟩ := List.getElem?_of_mem hv
    obtain ⟨_, _, hr⟩ := h3 j v hj
    exact hr.ltn
  | mmap es =>
    obtain ⟨l, c, _, h2⟩ := R.mp b es e
    simp only [rnO, Obj.mmap.injEq]
    exact mapRn hf h2
theorem iso_rel {G G1 : Tie} {h : Heap} {w w1 : World} {en : Env} {tm tm1 : Array Value} {s1 s0 : Env × Heap} {p q ds : List Nat} (R : Rel G h w) (he : RepEnv G en tm) (x : Ext G G1) (R1 : Rel G1 s1.2 w1) (he1 : RepEnv G1 s1.1 tm1)
    (h1 : ∀ t, t ∉ ds → s1.1 t = en t) (h0 : ∀ t, t ∉ ds → s0.1 t = en t) (hi : isoB p q ds h s1 s0 = true) : ∃ G0, Ext G G0 ∧ Rel G0 s0.2 w1 ∧ RepEnv G0 s0.1 tm1 := by
  obtain ⟨en1, h1'⟩ := s1
  obtain ⟨en0, h0'⟩ := s0
  simp only at *
  unfold isoB at hi
  split at hi
  · simp only [Bool.and_eq_true, eqHeap_iff, List.all_eq_true, eqV_iff] at hi
    obtain ⟨e1, e2⟩ := hi
    subst e1
    refine ⟨G1, x, R1, fun t => ?_⟩
    have := he1 t
    by_cases ht : t ∈ ds
    · rwa [e2 t ht] at this
    · rwa [h1 t ht, ← h0 t ht] at this
  · simp only [Bool.and_eq_true, Bool.or_eq_true, beq_iff_eq, eqHeap_iff, List.all_eq_true, List.mem_range, eqOO_iff, eqV_iff] at hi
    obtain ⟨i1, i2, i3, i4, i5, i6⟩ := hi
    obtain ⟨k1, k2, k3⟩ := invB_spec (n := h.length) i1
    have hGn := R.n
    have hG1 := R1.n
    have hold : ∀ b, b < h.length → h0'[b]? = (h1'[b]?).map (rnO (rnI h.length p)) := by
      intro b hb
      rcases i4 with ⟨j1, j2⟩ | i4
      · have a1 : h1'[b]? = h[b]? := by rw [← j1, List.getElem?_take_of_lt hb]
        have a0 : h0'[b]? = h[b]? := by rw [← j2, List.getElem?_take_of_lt hb]
        rw [a1, a0]
        cases hh : h[b]? with
        | none => rfl
        | some o => rw [Option.map_some, rel_obj R (fun c hc => rnI_lt (by omega)) hh]
      · exact i4 b hb
    refine ⟨G1.rn (rnI h.length q), x.rn fun b hb => rnI_lt (by omega), R1.rn (f := rnI h.length p) k1 k2 (fun b hb => by have := (k3 b (by omega)).1; omega) (fun b hb => by have := (k3 b (by omega)).2; omega) (by omega) (fun b hb => ?_), fun t => ?_⟩
    · by_cases hbn : b < h.length
      · rw [rnI_lt hbn]
        exact hold b hbn
      · have := i5 (b - h.length) (by omega)
        rw [show h.length + (b - h.length) = b by omega] at this
        rw [this]
        simp only [rnI, if_neg hbn]
    · have hr := (he1 t).rn (f := rnI h.length p) k1 (fun b hb => by have := (k3 b (by omega)).1; omega)
      by_cases ht : t ∈ ds
      · rwa [← i6 t ht] at hr
      · rw [h1 t ht, rn_same (n := G.n) (fun b hb => rnI_lt (by omega)) (he t).ltn, ← h0 t ht] at hr
        exact hr
end
section
open Go.RowKit (Below)
def Viol (σ : List Nat) (pr : Nat × Nat) : Prop := ∃ s1 s2, σ = s1 ++ pr.2 :: s2 ∧ pr.1 ∉ s1
theorem Viol.app {σ : List Nat} {pr : Nat × Nat} (h : Viol σ pr) (τ : List Nat) : Viol (σ ++ τ) pr := by
  obtain ⟨s1, s2, rfl, h⟩ := h
  exact ⟨s1, s2 ++ τ, by simp, h⟩
theorem viol_or {σ : List Nat} (hnd : σ.Nodup) {x i : Nat} (hxi : x ≠ i) (h1 : Viol σ (x, i)) (h2 : Viol σ (i, x)) : False := by
  obtain ⟨s1, s2, e1, n1⟩ := h1
  obtain ⟨t1, t2, e2, n2⟩ := h2
  simp only at e1 n1 e2 n2
  have hx : x ∈ s2 := by
    have : x ∈ σ := by rw [e2]; simp
    rw [e1] at this
    rcases List.mem_append.1 this with h | h
    · exact absurd h n1
    · rcases List.mem_cons.1 h with h | h
      · exact absurd h hxi
      · exact h
  have hi : i ∈ t2 := by
    have : i ∈ σ := by rw [e1]; simp
    rw [e2] at this
    rcases List.mem_append.1 this with h | h
    · exact absurd h n2
    · rcases List.mem_cons.1 h with h | h
      · exact absurd h.symm hxi
      · exact h
  have a1 : σ.idxOf i < σ.idxOf x := idx_lt hnd (by rw [e1]; exact sub_of_mem2 hx)
  have a2 : σ.idxOf x < σ.idxOf i := idx_lt hnd (by rw [e2]; exact sub_of_mem2 hi)
  omega
theorem viol_idx {σ : List Nat} (hnd : σ.Nodup) {x i : Nat} (h : ¬ Viol σ (x, i)) (hi : i ∈ σ) (hxi : x ≠ i) : [x, i].Sublist σ := by
  obtain ⟨s1, s2, rfl⟩ := List.append_of_mem hi
  have : x ∈ s1 := by
    refine Classical.byContradiction fun hn => h ⟨s1, s2, rfl, hn⟩
  exact sub_of_mem this
theorem viol_trans {σ : List Nat} (hnd : σ.Nodup) {a b c : Nat} (h1 : ¬ Viol σ (a, b)) (h2 : ¬ Viol σ (b, c)) : ¬ Viol σ (a, c) := by
  rintro ⟨s1, s2, e, hn⟩
  simp only at e hn
  have hb : b ∈ s1 := Classical.byContradiction fun hb => h2 ⟨s1, s2, e, hb⟩
  obtain ⟨t1, t2, rfl⟩ := List.append_of_mem hb
  refine h1 ⟨t1, t2 ++ c :: s2, by rw [e]; simp, fun ha => hn ?_⟩
  simp [ha]
theorem closeP_spec {σ : List Nat} (hnd : σ.Nodup) {N : List (Nat × Nat)} {a b : Nat} (hN : ∀ q ∈ N, ¬ Viol σ q) (h : ¬ Viol σ (a, b)) : ∀ q ∈ closeP N a b, ¬ Viol σ q := by
  intro q hq
  unfold closeP at hq
  rcases List.mem_append.1 hq with hq | hq
  · obtain ⟨x, hx, hq⟩ := List.mem_flatMap.1 hq
    obtain ⟨y, hy, rfl⟩ := List.mem_map.1 hq
    have h1 : ¬ Viol σ (x, b) := by
      rcases List.mem_cons.1 hx with rfl | hx
      · exact h
      · obtain ⟨p, hp, rfl⟩ := List.mem_map.1 hx
        obtain ⟨hp, e⟩ := List.mem_filter.1 hp
        have e : p.2 = a := by simpa using e
        have := hN p hp
        rw [show p = (p.1, a) by rw [← e]] at this
        exact viol_trans hnd this h
    rcases List.mem_cons.1 hy with rfl | hy
    · exact h1
    · obtain ⟨p, hp, rfl⟩ := List.mem_map.1 hy
      obtain ⟨hp, e⟩ := List.mem_filter.1 hp
      have e : p.1 = b := by simpa using e
      have := hN p hp
      rw [show p = (b, p.2) by rw [← e]] at this
      exact viol_trans hnd h1 this
  · exact hN q hq
theorem taut_spec {σ : List Nat} (hnd : σ.Nodup) : ∀ (k : Nat) {N V : List (Nat × Nat)} {Cs : List (List (Nat × Nat))}, taut k N V Cs = true → (∀ q ∈ N, ¬ Viol σ q) → (∀ q ∈ V, Viol σ q) → ∃ c ∈ Cs, ∀ pr ∈ c, ¬ Viol σ pr
  | 0, _, _, _, h, _, _ => by simp [taut] at h
  | k + 1, N, V, Cs, h, hN, hV => by
    unfold taut at h
    rw [Bool.or_eq_true, Bool.or_eq_true] at h
    rcases h with h | h | h
    · obtain ⟨q, hq, e⟩ := List.any_eq_true.1 h
      exact absurd (hV q hq) (hN q (by simpa using e))
    · obtain ⟨c, hc, he⟩ := List.any_eq_true.1 h
      exact ⟨c, hc, fun pr hp => hN pr (by simpa using List.all_eq_true.1 he pr hp)⟩
    · split at h
      · rename_i x i r _
        rw [Bool.and_eq_true, Bool.and_eq_true] at h
        by_cases hv : Viol σ (x, i)
        · have hxi : x ≠ i := by simpa using h.2.1
          have hv2 : ¬ Viol σ (i, x) := fun q => viol_or hnd hxi hv q
          obtain ⟨c, hc, hq⟩ := taut_spec hnd k h.2.2 (closeP_spec hnd hN hv2) (fun q hq => by
            rcases List.mem_cons.1 hq with rfl | hq
            · exact hv
            · exact hV q hq)
          exact ⟨c, (List.mem_filter.1 hc).1, hq⟩
        · exact taut_spec hnd k h.1 (closeP_spec hnd hN hv) hV
      · simp at h
theorem confl_spec {quiet : FuncId → Nat} {ops : List Oper} {l : List AOper} : ∀ {c : List Nat} {x i : Nat}, [x, i].Sublist c → depB ops ops.length i x = true ∨ commB quiet (l.getD x default) (l.getD i default) = true ∨ (x, i) ∈ confl quiet ops l c
  | [], _, _, h => by simp at h
  | y :: r, x, i, h => by
    simp only [confl, List.mem_append, List.mem_map, List.mem_filter]
    cases h with
    | cons _ h =>
      rcases confl_spec h with h1 | h1 | h1
      · exact .inl h1
      · exact .inr (.inl h1)
      · exact .inr (.inr (.inr h1))
    | cons_cons _ h =>
      have hi : i ∈ r := h.subset (by simp)
      cases hd : depB ops ops.length i y with
      | true => exact .inl rfl
      | false =>
        cases hcm : commB quiet (l.getD y default) (l.getD i default) with
        | true => exact .inr (.inl rfl)
        | false => exact .inr (.inr (.inl ⟨i, ⟨hi, by rw [hd, hcm]; rfl⟩, rfl⟩))
theorem confl_sub {quiet : FuncId → Nat} {ops : List Oper} {l : List AOper} : ∀ {c : List Nat} {pr : Nat × Nat}, pr ∈ confl quiet ops l c → [pr.1, pr.2].Sublist c
  | [], _, h => by simp [confl] at h
  | y :: r, pr, h => by
    simp only [confl, List.mem_append, List.mem_map, List.mem_filter] at h
    rcases h with ⟨i, ⟨hi, _⟩, rfl⟩ | h
    · exact List.Sublist.cons_cons y (List.singleton_sublist.2 hi)
    · exact (confl_sub h).trans (List.sublist_cons_self y r)
section
variable {P : Program} {gl : Nat → Option (List V)} {call : CallF} {base nt : Nat} {quiet : FuncId → Nat}
theorem filter_set {listed : Array Bool} {c p r : List Nat} {i : Nat} (hnd : c.Nodup) (hi : i < listed.size) (e : c.filter (fun j => !listed.getD j true) = p ++ i :: r) : c.filter (fun j => !(listed.setIfInBounds i true).getD j true) = p ++ r := by
  have hn : (p ++ i :: r).Nodup := by rw [← e]; exact hnd.sublist List.filter_sublist
  have h1 := List.nodup_append.1 hn
  have h2 := List.nodup_cons.1 h1.2.1
  have e2 : c.filter (fun j => !(listed.setIfInBounds i true).getD j true) = (c.filter (fun j => !listed.getD j true)).filter (fun j => j != i) := by
    rw [List.filter_filter]
    refine List.filter_congr fun j _ => ?_
    by_cases hj : i = j
    · subst hj
      simp [hi]
    · rw [getD_set_ne true hj]
      have : (j != i) = true := by simpa using fun e => hj e.symm
      rw [this, Bool.true_and]
  rw [e2, e, List.filter_append, List.filter_cons]
  have hp : p.filter (fun j => j != i) = p := List.filter_eq_self.2 fun j hj => by
    have : j ≠ i := fun e => h1.2.2 j hj i (by simp) e
    simpa using this
  have hr : r.filter (fun j => j != i) = r := List.filter_eq_self.2 fun j hj => by
    have : j ≠ i := fun e => h2.1 (e ▸ hj)
    simpa using this
  rw [hp, hr]
  simp
theorem anyM_wp (hq : QuietOk quiet call) (hc : CallOk P gl call) {ops : Array Oper} {Q : Exit → Act → World → Prop} {f : Nat → AOper} {Cs : List (List Nat)} {cf : List Nat → List (Nat × Nat)} {res : List Nat → Env × Heap}
    (hf : ∀ (i : Nat) (o : Oper), ops[i]? = some o → Serves P gl nt ops.toList o (f i))
    (hback : ∀ (i : Nat) (o : Oper), ops[i]? = some o → ∀ e ∈ o.after, Region.binds .any e = true → e.on < i)
    (hperm : ∀ c ∈ Cs, c.Nodup ∧ ∀ i, i ∈ c ↔ i < ops.size)
    (hcf : ∀ c ∈ Cs, ∀ x i, [x, i].Sublist c → depB ops.toList ops.toList.length i x = true ∨ commB quiet (f x) (f i) = true ∨ (x, i) ∈ cf c)
    (htaut : ∀ σ : List Nat, σ.Nodup → (∀ i x, depB ops.toList ops.toList.length i x = true → ¬ Viol σ (x, i)) → ∃ c ∈ Cs, ∀ pr ∈ cf c, ¬ Viol σ pr) :
    ∀ (fuel : Nat) (listed : Array Bool) (σ : List Nat) {G : Tie} {en : Env} {h : Heap} {a : Act} {w : World},
      σ.Nodup → (∀ i x, depB ops.toList ops.toList.length i x = true → ¬ Viol σ (x, i)) → (∀ i, i ∈ σ ↔ i < ops.size ∧ listed.getD i false = true) → listed.size = ops.size → ((List.range ops.size).filter fun j => !listed.getD j true).length ≤ fuel →
      (∀ (i : Nat) (o : Oper), ops[i]? = some o → listed.getD i false = true → ∀ e ∈ o.after, Region.binds .any e = true → listed.getD e.on false = true) →
      (∀ c ∈ Cs, (∀ pr ∈ cf c, ¬ Viol σ pr) → evOps call base ((c.filter fun j => !listed.getD j true).map f) en h = some (res c)) →
      GlobOk G gl → RepEnv G en a.tmps → Rel G h w → base ≤ h.length → nt ≤ a.tmps.size →
      (∀ c ∈ Cs, ∀ a' w' G', Reach G w (res c).2 w' G' → RepEnv G' (res c).1 a'.tmps → a'.tmps.size = a.tmps.size → a'.defers = a.defers → Q .normal a' w') → wpAny P .any ops Q fuel listed a w := by
  intro fuel
  have memM : ∀ (listed : Array Bool) (c : List Nat), c ∈ Cs → listed.size = ops.size → ∀ i, i ∈ c.filter (fun j => !listed.getD j true) ↔ i < ops.size ∧ listed.getD i true = false := by
    intro listed c hcs hlen i
    rw [List.mem_filter, (hperm c hcs).2 i]
    simp
  have done : ∀ (listed : Array Bool) (σ : List Nat) {G : Tie} {en : Env} {h : Heap} {a : Act} {w : World}, σ.Nodup → (∀ i x, depB ops.toList ops.toList.length i x = true → ¬ Viol σ (x, i)) → listed.size = ops.size →
      (∀ c ∈ Cs, (∀ pr ∈ cf c, ¬ Viol σ pr) → evOps call base ((c.filter fun j => !listed.getD j true).map f) en h = some (res c)) → RepEnv G en a.tmps → Rel G h w →
      (∀ c ∈ Cs, ∀ a' w' G', Reach G w (res c).2 w' G' → RepEnv G' (res c).1 a'.tmps → a'.tmps.size = a.tmps.size → a'.defers = a.defers → Q .normal a' w') → Region.ready .any ops listed = [] → Q .normal a w := by
    intro listed σ G en h a w hnd hdp hlen hs he R hQ hr
    obtain ⟨c, hcs, hal⟩ := htaut σ hnd hdp
    have hM := memM listed c hcs hlen
    have hs := hs c hcs hal
    by_cases hMn : c.filter (fun j => !listed.getD j true) = []
    · rw [hMn] at hs
      simp only [List.map_nil, evOps, Option.some.injEq] at hs
      have e1 : en = (res c).1 := by rw [← hs]
      have e2 : h = (res c).2 := by rw [← hs]
      exact hQ c hcs a w G (by rw [← e2]; exact Reach.refl R) (by rw [← e1]; exact he) rfl rfl
    · exfalso
      obtain ⟨m, hmM, hleast⟩ := least_mem hMn
      obtain ⟨hm, hml⟩ := (hM m).1 hmM
      have : m ∈ Region.ready .any ops listed := by
        rw [mem_ready]
        refine ⟨hml, ops[m], Array.getElem?_eq_getElem hm, fun e he hb => ?_⟩
        have hlt := hback m _ (Array.getElem?_eq_getElem hm) e he hb
        cases hv : listed.getD e.on false with
        | true => rfl
        | false =>
          exfalso
          have hin : e.on ∈ c.filter (fun j => !listed.getD j true) := (hM e.on).2 ⟨by omega, by
            have : e.on < listed.size := by omega
            simp [this] at hv ⊢
            exact hv⟩
          have := hleast _ hin
          omega
      rw [hr] at this
      simp at this
  induction fuel with
  | zero =>
    intro listed σ G en h a w hnd hdp hσ hlen hfuel down hs hgl he R hb hsz hQ
    have hr : Region.ready .any ops listed = [] := by
      refine List.eq_nil_iff_forall_not_mem.2 fun i hi => ?_
      rw [mem_ready] at hi
      have hM : (List.range ops.size).filter (fun j => !listed.getD j true) = [] := by simpa using hfuel
      have : i ∈ (List.range ops.size).filter (fun j => !listed.getD j true) := List.mem_filter.2 ⟨List.mem_range.2 (by have := getD_true_lt hi.1; omega), by rw [hi.1]; rfl⟩
      rw [hM] at this
      cases this
    exact ⟨hr, done listed σ hnd hdp hlen hs he R hQ hr⟩
  | succ fuel ih =>
    intro listed σ G en h a w hnd hdp hσ hlen hfuel down hs hgl he R hb hsz hQ
    refine ⟨done listed σ hnd hdp hlen hs he R hQ, fun i hi => ?_⟩
    obtain ⟨hil, o, ho, hall⟩ := mem_ready.1 hi
    have hisz : i < ops.size := by have := getD_true_lt hil; omega
    have hiσ : i ∉ σ := fun hc => by
      have h2 := ((hσ i).1 hc).2
      exact getD_both h2 hil
    have hnd' : (σ ++ [i]).Nodup := by
      rw [List.nodup_append]
      refine ⟨hnd, by simp, fun x hx y hy => ?_⟩
      rw [List.mem_singleton] at hy
      subst hy
      exact fun e => hiσ (e ▸ hx)
    have hdp' : ∀ j x, depB ops.toList ops.toList.length j x = true → ¬ Viol (σ ++ [i]) (x, j) := by
      rintro j x hd ⟨s1, s2, e, hn⟩
      simp only at e hn
      rcases List.eq_nil_or_concat s2 with rfl | ⟨s3, y, rfl⟩
      · obtain ⟨e1, e2⟩ := List.append_inj' (s₁ := σ) (t₁ := [i]) (s₂ := s1) (t₂ := [j]) e rfl
        injection e2 with e2
        subst e1 e2
        have h1 := depB_listed down _ _ _ o ho hall hd
        exact hn ((hσ x).2 ⟨by have := getD_false_lt h1; omega, h1⟩)
      · rw [List.concat_eq_append, ← List.cons_append, ← List.append_assoc] at e
        obtain ⟨e1, _⟩ := List.append_inj' e rfl
        exact hdp j x hd ⟨s1, s3, e1, hn⟩
    -- one candidate takes the step
    have one : ∀ c ∈ Cs, (∀ pr ∈ cf c, ¬ Viol (σ ++ [i]) pr) → ∃ v h1, evVal call base (f i) en h = some (v, h1) ∧ evOps call base ((c.filter fun j => !(listed.setIfInBounds i true).getD j true).map f) (en.put (f i).dst v) h1 = some (res c) := by
      intro c hcs hal
      have hM := memM listed c hcs hlen
      have hs := hs c hcs fun pr hp hv => hal pr hp (hv.app [i])
      have him : i ∈ c.filter (fun j => !listed.getD j true) := (hM i).2 ⟨hisz, hil⟩
      obtain ⟨p, r, e⟩ := List.append_of_mem him
      have hcm : ∀ x ∈ p.map f, commB quiet x (f i) = true := by
        intro y hy
        obtain ⟨x, hx, rfl⟩ := List.mem_map.1 hy
        have hsub : [x, i].Sublist c := (sub_of_mem (r := r) (i := i) hx).trans (by rw [← e]; exact List.filter_sublist)
        have hxu := ((hM x).1 (by rw [e]; simp [hx])).2
        rcases hcf c hcs x i hsub with hd | hd | hd
        · exfalso
          have h1 := depB_listed down _ _ _ o ho hall hd
          exact getD_both h1 hxu
        · exact hd
        · exfalso
          refine hal (x, i) hd ⟨σ, [], rfl, fun hxs => ?_⟩
          exact getD_both ((hσ x).1 hxs).2 hxu
      rw [e, List.map_append, List.map_cons] at hs
      have hs2 := front hq hcm hs
      rw [evOps_cons, Option.bind_eq_some_iff] at hs2
      obtain ⟨⟨v, h1⟩, e1, e2⟩ := hs2
      refine ⟨v, h1, e1, ?_⟩
      rw [filter_set (hperm c hcs).1 (by omega) e, List.map_append]
      exact e2
    obtain ⟨c0, hc0, hal0⟩ := htaut _ hnd' hdp'
    obtain ⟨v, h1, e1, _⟩ := one c0 hc0 hal0
    refine one_wp hc ho (hf i o ho) hgl he R hb hsz e1 fun a' w' G' hreach hb' he' q1 q2 => ?_
    refine ih (listed.setIfInBounds i true) (σ ++ [i]) hnd' hdp' (fun x => ?_) (by simpa using hlen) ?_ ?_ (fun c hcs hal => ?_) (hgl.ext hreach.ext) he' hreach.rel hb' (by omega) fun c hcs a'' w'' G'' hreach' he'' r1 r2 => hQ c hcs a'' w'' G'' (hreach.trans hreach') he'' (r1.trans q1) (r2.trans q2)
    · rw [List.mem_append, List.mem_singleton, hσ x]
      by_cases hx : i = x
      · subst hx
        have : i < listed.size := by omega
        simp [this, hisz]
      · rw [getD_set_ne false hx]
        constructor
        · rintro (h | h)
          · exact h
          · exact absurd h.symm hx
        · exact .inl
    · have him : i ∈ (List.range ops.size).filter (fun j => !listed.getD j true) := List.mem_filter.2 ⟨List.mem_range.2 hisz, by rw [hil]; rfl⟩
      obtain ⟨p, r, e⟩ := List.append_of_mem him
      rw [filter_set List.nodup_range (by omega) e]
      rw [e] at hfuel
      simp at hfuel ⊢
      omega
    · intro x ox hox hxl e hm hbd
      by_cases hx : i = x
      · subst hx
        rw [ho] at hox
        injection hox with hox
        subst hox
        exact getD_set_true (hall e hm hbd)
      · rw [getD_set_ne false hx] at hxl
        exact getD_set_true (down x ox hox hxl e hm hbd)
    · obtain ⟨v', h1', e1', e2'⟩ := one c hcs hal
      rw [e1] at e1'
      injection e1' with e1'
      injection e1' with ev eh
      subst ev eh
      exact e2'
end
end
section
open Go.RowKit (Below)
section
variable {P : Program} {gl : Nat → Option (List V)} {call : CallF} {base n nt : Nat}
theorem draw_wp {quiet : FuncId → Nat} (hm : P.follows .mixedOrders = true) (hq : QuietOk quiet call) (hc : CallOk P gl call) {id : Nat} {ops : Array Oper} {aops B : List AOper} (pi : List Nat) (hco : compOps P gl nt ops.toList ops.toList = some aops)
    (hB : B.length = aops.length ∧ ∀ (i : Nat) (x y : AOper), B[i]? = some x → aops[i]? = some y → Stands x y) (hok : okDraw quiet ops.toList B pi = true) :
    CodeOk P gl base nt (.region id ops true) (fun en h => (evOps call base (takeOrder B pi) en h).map fun r => (Ex.normal, r.1, r.2)) := by
  intro G en en' h h' a w ex Q hgl he R hb hsz hs hQ
  simp only [Option.map_eq_some_iff, Prod.mk.injEq] at hs
  obtain ⟨⟨en1, h1⟩, e1, rfl, rfl, rfl⟩ := hs
  have hall := compOps_all (P := P) (gl := gl) (nt := nt) (all := ops.toList) 0 hco (fun j o hj => by simpa using hj)
  have hlen : aops.length = ops.size := by
    have := hall.length
    simpa using this
  simp only [okDraw, Bool.and_eq_true, List.all_eq_true, List.mem_range, beq_iff_eq, Array.length_toList] at hok
  obtain ⟨⟨⟨⟨hpairs, hpl⟩, hnd⟩, hlt⟩, hrest⟩ := hok
  have hnd := nodupB_spec hnd
  have hlt : ∀ i ∈ pi, i < ops.size := fun i hi => by simpa using hlt i hi
  have hpairs' := okPairs_spec hpairs
  refine wp_region_any hm (any_wp hq hc (f := fun i => B.getD i default) ?_ ?_ ops.size (Array.replicate ops.size false) pi hnd hpairs' ?_ (by simp) (by omega) ?_ hgl he R.drew hb hsz e1 ?_)
  · intro i o ho
    have hi : i < ops.size := (Array.getElem?_eq_some_iff.1 ho).1
    obtain ⟨ao, h1, o', ho', hco'⟩ := hall.get i i (by simp [hi])
    rw [Array.getElem?_toList, ho] at ho'
    injection ho' with ho'
    subst ho'
    have hib : i < B.length := by omega
    refine ⟨ao, hco', ?_⟩
    have := hB.2 i B[i] ao (List.getElem?_eq_getElem hib) h1
    simpa [List.getD, hib] using this
  · intro i o ho e hm hbd
    have hi : i < ops.size := (Array.getElem?_eq_some_iff.1 ho).1
    have h1 := (hrest i hi).2
    rw [Array.getElem?_toList, ho] at h1
    simp only [List.all_eq_true, Array.mem_toList_iff, Bool.or_eq_true, Bool.not_eq_true', decide_eq_true_eq] at h1
    rcases h1 e hm with h1 | h1
    · rw [hbd] at h1; simp at h1
    · exact h1
  · intro i
    constructor
    · intro hi; exact ⟨hlt i hi, by simp [hlt i hi]⟩
    · rintro ⟨hi, _⟩; simpa using (hrest i hi).1
  · intro i o ho hl
    have hi : i < ops.size := (Array.getElem?_eq_some_iff.1 ho).1
    simp [hi] at hl
  · intro a' w' G' hreach he' q1 q2
    exact hQ a' w' G' ((⟨Ext.refl G, R.drew, ⟨⟨rfl, rfl, rfl, Nat.le_refl _, fun _ _ => rfl⟩, fun _ _ => rfl⟩⟩ : Reach G w h _ G).trans hreach) he' q1 q2
theorem draw_wpK {quiet : FuncId → Nat} (hm : P.follows .mixedOrders = true) (hq : QuietOk quiet call) (hc : CallOk P gl call) {id : Nat} {ops : Array Oper} {aops B : List AOper} (pi : List Nat) (hco : compOps P gl nt ops.toList ops.toList = some aops)
    (hB : B.length = aops.length ∧ ∀ (i : Nat) (x y : AOper), B[i]? = some x → aops[i]? = some y → Stands x.plain y) (hok : okDrawK quiet ops.toList B pi = true) :
    CodeOk P gl base nt (.region id ops true) (fun en h => (evOps call base (takeOrder B pi) en h).map fun r => (Ex.normal, r.1, r.2)) := by
  intro G en en' h h' a w ex Q hgl he R hb hsz hs hQ
  simp only [Option.map_eq_some_iff, Prod.mk.injEq] at hs
  obtain ⟨⟨en1, h1⟩, e1, rfl, rfl, rfl⟩ := hs
  have hall := compOps_all (P := P) (gl := gl) (nt := nt) (all := ops.toList) 0 hco (fun j o hj => by simpa using hj)
  have hlen : aops.length = ops.size := by
    have := hall.length
    simpa using this
  simp only [okDrawK, Bool.and_eq_true, List.all_eq_true, List.mem_range, beq_iff_eq, Array.length_toList] at hok
  obtain ⟨⟨⟨⟨hpairs, hpl⟩, hnd⟩, hlt⟩, hrest⟩ := hok
  have hnd := nodupB_spec hnd
  have hlt : ∀ i ∈ pi, i < ops.size := fun i hi => by simpa using hlt i hi
  have hpairs' := okPairsK_spec hpairs
  refine wp_region_any hm (any_wpK hq hc (f := fun i => B.getD i default) ?_ ?_ ops.size (Array.replicate ops.size false) pi hnd hpairs' ?_ (by simp) (by omega) ?_ hgl he R.drew hb hsz e1 ?_)
  · intro i o ho
    have hi : i < ops.size := (Array.getElem?_eq_some_iff.1 ho).1
    obtain ⟨ao, h1, o', ho', hco'⟩ := hall.get i i (by simp [hi])
    rw [Array.getElem?_toList, ho] at ho'
    injection ho' with ho'
    subst ho'
    have hib : i < B.length := by omega
    refine ⟨ao, hco', ?_⟩
    have := hB.2 i B[i] ao (List.getElem?_eq_getElem hib) h1
    simpa [List.getD, hib] using this
  · intro i o ho e hm hbd
    have hi : i < ops.size := (Array.getElem?_eq_some_iff.1 ho).1
    have h1 := (hrest i hi).2
    rw [Array.getElem?_toList, ho] at h1
    simp only [List.all_eq_true, Array.mem_toList_iff, Bool.or_eq_true, Bool.not_eq_true', decide_eq_true_eq] at h1
    rcases h1 e hm with h1 | h1
    · rw [hbd] at h1; simp at h1
    · exact h1
  · intro i
    constructor
    · intro hi; exact ⟨hlt i hi, by simp [hlt i hi]⟩
    · rintro ⟨hi, _⟩; simpa using (hrest i hi).1
  · intro i o ho hl
    have hi : i < ops.size := (Array.getElem?_eq_some_iff.1 ho).1
    simp [hi] at hl
  · intro a' w' G' hreach he' q1 q2
    exact hQ a' w' G' ((⟨Ext.refl G, R.drew, ⟨⟨rfl, rfl, rfl, Nat.le_refl _, fun _ _ => rfl⟩, fun _ _ => rfl⟩⟩ : Reach G w h _ G).trans hreach) he' q1 q2
theorem compOper_noK {all : List Oper} {o : Oper} {ao : AOper} (h : compOper P gl nt all o = some ao) {f : Opd} {args : List Opd} {ts : List Nat} : ao.op ≠ .callK f args ts := by
  intro e
  unfold compOper at h
  have hop : ao.op = compOpT P gl o.op := by
    simp only at h
    split at h
    · split at h
      · injection h with h; rw [← h]
      · simp only [Option.map_eq_some_iff] at h
        obtain ⟨d, _, rfl⟩ := h
        rfl
    · simp at h
  rw [e] at hop
  unfold compOpT at hop
  cases hcp : compOp P gl o.op with
  | none => rw [hcp] at hop; simp at hop
  | some op => rw [hcp] at hop; simp only [Option.getD_some] at hop; subst hop; exact compOp_noK hcp
theorem grwAll_ok {quiet : FuncId → Nat} {ops : List Oper} {l : List AOper} {pi : List Nat} (hoff : ∀ (i : Nat) (y : AOper), l[i]? = some y → ∀ f args ts, y.op ≠ .callK f args ts) :
    (grwAll quiet ops l pi).length = l.length ∧ ∀ (i : Nat) (x y : AOper), (grwAll quiet ops l pi)[i]? = some x → l[i]? = some y → Stands x.plain y := by
  refine ⟨by simp [grwAll], fun i x y h1 h2 => ?_⟩
  have hi : i < l.length := (List.getElem?_eq_some_iff.1 h2).1
  have hy : l.getD i default = y := by simp [List.getD, h2]
  simp only [grwAll, List.getElem?_map, List.getElem?_range hi, Option.map_some, Option.some.injEq, hy] at h1
  subst h1
  have hno := hoff i y h2
  have : (grwAt quiet ops l pi i y).plain = y := by
    obtain ⟨dst, op, g, off⟩ := y
    unfold grwAt
    simp only
    split
    · split <;> rfl
    · simp only [AOper.plain]
      cases op
      case callK f args ts _ => exact absurd rfl (hno f args ts)
      all_goals rfl
  rw [this]
  exact Stands.refl y
theorem okLate_spec {quiet : FuncId → Nat} {ops : List Oper} {l : List AOper} {late : List Nat} : ∀ {pi pre : List Nat}, okLate quiet ops l late pre pi = true → ∀ (p r : List Nat) (i : Nat), pi = p ++ i :: r → late.contains i = true →
    ∀ j ∈ r, commAt quiet l i j = true ∨ ∀ x ∈ pre ++ p, commAt quiet l x i = true ∨ depB ops ops.length j x = true
  | [], _, _, p, r, i, e, _ => by simp at e
  | m :: pi, pre, h, p, r, i, e, hl => by
    simp only [okLate, Bool.and_eq_true, Bool.or_eq_true, Bool.not_eq_true', List.all_eq_true] at h
    cases p with
    | nil =>
      simp only [List.nil_append, List.cons.injEq] at e
      obtain ⟨rfl, rfl⟩ := e
      intro j hj
      rcases h.1 with h1 | h1
      · rw [hl] at h1; simp at h1
      · rcases h1 j hj with h2 | h2
        · exact .inl h2
        · exact .inr fun x hx => h2 x (by simpa using hx)
    | cons q p =>
      simp only [List.cons_append, List.cons.injEq] at e
      obtain ⟨rfl, rfl⟩ := e
      intro j hj
      have := okLate_spec h.2 p r i rfl hl j hj
      simpa using this
theorem okPairsL_spec {quiet : FuncId → Nat} {ops : List Oper} {l : List AOper} {late : List Nat} : ∀ {pi : List Nat}, okPairsL quiet ops l late pi = true →
    pi.Pairwise fun x i => depB ops ops.length i x = true ∨ commAt quiet l x i = true ∨ (late.contains i = true ∧ lateAt l x i = true)
  | [], _ => List.Pairwise.nil
  | x :: r, h => by
    simp only [okPairsL, Bool.and_eq_true, List.all_eq_true, Bool.or_eq_true] at h
    refine List.Pairwise.cons (fun i hi => ?_) (okPairsL_spec h.2)
    rcases h.1 i hi with (h1 | h1) | h1
    · exact .inl h1
    · exact .inr (.inl h1)
    · exact .inr (.inr h1)
theorem commAt_get {quiet : FuncId → Nat} {l : List AOper} {x i : Nat} (h : commAt quiet l x i = true) : commB quiet (l.getD x default) (l.getD i default) = true := by
  unfold commAt at h
  split at h
  · rename_i a b ha hb
    simpa [List.getD, ha, hb] using h
  · simp at h
theorem lateAt_get {l : List AOper} {x i : Nat} (h : lateAt l x i = true) : lateB (l.getD x default) (l.getD i default) = true := by
  unfold lateAt at h
  split at h
  · rename_i a b ha hb
    simpa [List.getD, ha, hb] using h
  · simp at h
theorem sub_split {M : List Nat} (hnd : M.Nodup) {i j : Nat} (h : [i, j].Sublist M) : ∃ p r, M = p ++ i :: r ∧ j ∈ r := by
  have hi : i ∈ M := h.subset (by simp)
  obtain ⟨p, r, rfl⟩ := List.append_of_mem hi
  refine ⟨p, r, rfl, ?_⟩
  have hj : j ∈ p ++ i :: r := h.subset (by simp)
  have hlt := idx_lt hnd h
  rcases List.mem_append.1 hj with hj | hj
  · exfalso
    have := idx_lt hnd (sub_of_mem (r := r) (i := i) hj)
    omega
  · rcases List.mem_cons.1 hj with rfl | hj
    · omega
    · exact hj
theorem sub_before {p r : List Nat} {x i : Nat} (hnd : (p ++ i :: r).Nodup) (h : [x, i].Sublist (p ++ i :: r)) : x ∈ p := by
  have hx : x ∈ p ++ i :: r := h.subset (by simp)
  have hlt := idx_lt hnd h
  rcases List.mem_append.1 hx with hx | hx
  · exact hx
  · exfalso
    rcases List.mem_cons.1 hx with rfl | hx
    · omega
    · have := idx_lt hnd (sub_of_mem2 (p := p) (i := i) hx)
      omega
theorem drawL_wp {quiet : FuncId → Nat} (hm : P.follows .mixedOrders = true) (hq : QuietOk quiet call) (hc : CallOk P gl call) {id : Nat} {ops : Array Oper} {aops B : List AOper} (late pi : List Nat) (hco : compOps P gl nt ops.toList ops.toList = some aops)
    (hB : B.length = aops.length ∧ ∀ (i : Nat) (x y : AOper), B[i]? = some x → aops[i]? = some y → Stands x y ∧ (x.op.lay = true → x = y)) (hok : okDrawL quiet ops.toList B late pi = true) : CodeOk P gl base nt (.region id ops true) (fun en h => (evOps call base (takeOrder B pi) en h).map fun r => (Ex.normal, r.1, r.2)) := by
  intro G en en' h h' a w ex Q hgl he R hb hsz hs hQ
  simp only [Option.map_eq_some_iff, Prod.mk.injEq] at hs
  obtain ⟨⟨en1, h1⟩, e1, rfl, rfl, rfl⟩ := hs
  have hall := compOps_all (P := P) (gl := gl) (nt := nt) (all := ops.toList) 0 hco (fun j o hj => by simpa using hj)
  simp only [okDrawL, Bool.and_eq_true, List.all_eq_true, List.mem_range, beq_iff_eq, Array.length_toList] at hok
  obtain ⟨⟨⟨⟨⟨hpairs, hlates⟩, hpl⟩, hnd⟩, hlt⟩, hrest⟩ := hok
  have hnd := nodupB_spec hnd
  have hlt : ∀ i ∈ pi, i < ops.size := fun i hi => by simpa using hlt i hi
  have hpw : ∀ x i, [x, i].Sublist pi → depB ops.toList ops.toList.length i x = true ∨ commAt quiet B x i = true ∨ (late.contains i = true ∧ lateAt B x i = true) := fun x i hxi => List.pairwise_iff_forall_sublist.1 (okPairsL_spec hpairs) hxi
  refine wp_region_any hm (anyL_wp (base := base) (quiet := quiet) (nt := nt) (gl := gl) (call := call) hq hc (f := fun i => B.getD i default) (late := fun i => late.contains i) (en' := en1) (h' := h1) ?_ ?_ ops.size (Array.replicate ops.size false) pi (M := pi) (Pd := []) (G := G) (en := en) (h := h)
    ⟨by simp, hnd, fun x i hxi => ?_, fun i j hij hl => ?_, fun i => ?_, fun i k hik => by simp at hik, List.Pairwise.nil, hgl, he, R.drew, hb, hsz, e1⟩ (by omega) ?_ ?_ ?_)
  · intro i o ho
    have hi : i < ops.size := (Array.getElem?_eq_some_iff.1 ho).1
    obtain ⟨ao, h1, o', ho', hco'⟩ := hall.get i i (by simp [hi])
    rw [Array.getElem?_toList, ho] at ho'
    injection ho' with ho'
    subst ho'
    have hib : i < B.length := by
      have := (List.getElem?_eq_some_iff.1 h1).1
      omega
    obtain ⟨hst, hly⟩ := hB.2 i B[i] ao (List.getElem?_eq_getElem hib) h1
    have e : B.getD i default = B[i] := by simp [List.getD, hib]
    show Serves P gl nt ops.toList o (B.getD i default) ∧ ((B.getD i default).op.lay = true → compOper P gl nt ops.toList o = some (B.getD i default))
    rw [e]
    exact ⟨⟨ao, hco', hst⟩, fun hl => by rw [hly hl]; exact hco'⟩
  · intro i o ho e hm hbd
    have hi : i < ops.size := (Array.getElem?_eq_some_iff.1 ho).1
    have h1 := (hrest i hi).2
    rw [Array.getElem?_toList, ho] at h1
    simp only [List.all_eq_true, Array.mem_toList_iff, Bool.or_eq_true, Bool.not_eq_true', decide_eq_true_eq] at h1
    rcases h1 e hm with h1 | h1
    · rw [hbd] at h1; simp at h1
    · exact h1
  · rcases hpw x i hxi with h2 | h2 | ⟨h2, h3⟩
    · exact .inl h2
    · exact .inr (.inl (commAt_get h2))
    · exact .inr (.inr ⟨h2, lateAt_get h3⟩)
  · obtain ⟨p, r, e, hj⟩ := sub_split hnd hij
    rcases okLate_spec hlates p r i e hl j hj with h2 | h2
    · exact .inl (commAt_get h2)
    · right
      intro x hx
      rw [e] at hx hnd
      rcases h2 x (by simpa using sub_before hnd hx) with h3 | h3
      · exact .inl (commAt_get h3)
      · exact .inr h3
  · constructor
    · intro hi; exact ⟨hlt i hi, .inl (by simp [hlt i hi])⟩
    · rintro ⟨hi, _⟩; simpa using (hrest i hi).1
  · intro i hi _
    simpa using (hrest i hi).1
  · intro i o ho hl
    have hi : i < ops.size := (Array.getElem?_eq_some_iff.1 ho).1
    simp [hi] at hl
  · intro a' w' G' hreach he' q1 q2
    exact hQ a' w' G' ((⟨Ext.refl G, R.drew, ⟨⟨rfl, rfl, rfl, Nat.le_refl _, fun _ _ => rfl⟩, fun _ _ => rfl⟩⟩ : Reach G w h _ G).trans hreach) he' q1 q2
theorem drawM_wp {quiet : FuncId → Nat} (hm : P.follows .mixedOrders = true) (hq : QuietOk quiet call) (hc : CallOk P gl call) {id : Nat} {ops : Array Oper} {aops : List AOper} {c0 : List Nat} {rest : List (List Nat)} {ps : List (List Nat × List Nat)} (hco : compOps P gl nt ops.toList ops.toList = some aops)
    (hok : okOrders quiet ops.toList aops (c0 :: rest) = true) : CodeOk P gl base nt (.region id ops true) (fun en h => evC call base n (.regionM (takeOrder aops c0) (rest.map (takeOrder aops)) ps) en h) := by
  intro G en en' h h' a w ex Q hgl he R hb hsz hs hQ
  simp only [evC] at hs
  split at hs
  rotate_left
  · simp at hs
  rename_i s0 e0
  split at hs
  rotate_left
  · simp at hs
  rename_i hall0
  simp only [Option.some.injEq, Prod.mk.injEq] at hs
  obtain ⟨rfl, rfl, rfl⟩ := hs
  have hall := compOps_all (P := P) (gl := gl) (nt := nt) (all := ops.toList) 0 hco (fun j o hj => by simpa using hj)
  have hlen : aops.length = ops.size := by
    have := hall.length
    simpa using this
  simp only [okOrders, Bool.and_eq_true, List.all_eq_true, List.mem_range, Array.length_toList] at hok
  obtain ⟨hords, htaut, hrest⟩ := hok
  have hperm : ∀ c ∈ c0 :: rest, c.Nodup ∧ ∀ i, i ∈ c ↔ i < ops.size := by
    intro c hcs
    have := hords c hcs
    simp only [orderOk, Bool.and_eq_true, List.all_eq_true, decide_eq_true_eq, List.mem_range, Array.length_toList] at this
    obtain ⟨h1, h2, h3⟩ := this
    exact ⟨nodupB_spec h2, fun i => ⟨h3 i, fun hi => by simpa using h1 i hi⟩⟩
  have hdst : ∀ c ∈ c0 :: rest, ∀ t, t ∉ dstsOf (takeOrder aops c0) → ∀ x ∈ takeOrder aops c, x.dst ≠ some t := by
    intro c hcs t ht x hx e
    obtain ⟨i, hi, rfl⟩ := List.mem_map.1 hx
    refine ht (List.mem_filterMap.2 ⟨_, List.mem_map.2 ⟨i, ?_, rfl⟩, e⟩)
    exact ((hperm c0 (by simp)).2 i).2 (((hperm c hcs).2 i).1 hi)
  have hiso : ∀ c ∈ rest, ∃ s1, evOps call base (takeOrder aops c) en h = some s1 ∧ ∃ p ∈ ps, isoB p.1 p.2 (dstsOf (takeOrder aops c0)) h s1 s0 = true := by
    intro c hcs
    have := List.all_eq_true.1 hall0 (takeOrder aops c) (List.mem_map.2 ⟨c, hcs, rfl⟩)
    split at this
    · rename_i s1 e1
      exact ⟨s1, e1, List.any_eq_true.1 this⟩
    · simp at this
  refine wp_region_any hm (anyM_wp hq hc (f := fun i => aops.getD i default) (Cs := c0 :: rest) (cf := fun c => confl quiet ops.toList aops c) (res := fun c => (evOps call base (takeOrder aops c) en h).getD s0) ?_ ?_ hperm (fun c _ x i hxi => confl_spec hxi) (fun σ hσ hdp => ?_) ops.size (Array.replicate ops.size false) [] List.nodup_nil (fun i x _ => ?_) ?_ (by simp) ?_ ?_ ?_ hgl he R.drew hb hsz ?_)
  · intro i o ho
    have hi : i < ops.size := (Array.getElem?_eq_some_iff.1 ho).1
    obtain ⟨ao, h1, o', ho', hco'⟩ := hall.get i i (by simp [hi])
    rw [Array.getElem?_toList, ho] at ho'
    injection ho' with ho'
    subst ho'
    refine ⟨ao, hco', ?_⟩
    have : aops.getD i default = ao := by simp [List.getD, h1]
    show Stands (aops.getD i default) ao
    rw [this]
    exact Stands.refl _
  · intro i o ho e hm hbd
    have hi : i < ops.size := (Array.getElem?_eq_some_iff.1 ho).1
    have h1 := hrest i hi
    rw [Array.getElem?_toList, ho] at h1
    simp only [List.all_eq_true, Array.mem_toList_iff, Bool.or_eq_true, Bool.not_eq_true', decide_eq_true_eq] at h1
    rcases h1 e hm with h1 | h1
    · rw [hbd] at h1; simp at h1
    · exact h1
  · have := taut_spec hσ 60 htaut (fun q hq => by
      unfold depPairs at hq
      obtain ⟨x, hx, hq⟩ := List.mem_flatMap.1 hq
      obtain ⟨i, hi, rfl⟩ := List.mem_map.1 hq
      exact hdp i x (List.mem_filter.1 hi).2) (fun q hq => by cases hq)
    obtain ⟨c', hc', hv⟩ := this
    obtain ⟨c, hcs, rfl⟩ := List.mem_map.1 hc'
    exact ⟨c, hcs, hv⟩
  · rintro ⟨s1, s2, e, _⟩
    simp at e
  · intro i
    constructor
    · intro hi; cases hi
    · rintro ⟨hi, hl⟩
      simp [hi] at hl
  · exact Nat.le_trans (List.length_filter_le _ _) (by simp)
  · intro i o ho hl
    have hi : i < ops.size := (Array.getElem?_eq_some_iff.1 ho).1
    simp [hi] at hl
  · intro c hcs _
    have e : c.filter (fun j => !(Array.replicate ops.size false).getD j true) = c := List.filter_eq_self.2 fun j hj => by
      have := ((hperm c hcs).2 j).1 hj
      simp [this]
    rw [e]
    show evOps call base (takeOrder aops c) en h = _
    rcases List.mem_cons.1 hcs with rfl | hcs
    · rw [e0]; rfl
    · obtain ⟨s1, e1, _⟩ := hiso c hcs
      rw [e1]; rfl
  · intro c hcs a' w' G' hreach he' q1 q2
    have hst : Reach G w h w.drew G := ⟨Ext.refl G, R.drew, ⟨⟨rfl, rfl, rfl, Nat.le_refl _, fun _ _ => rfl⟩, fun _ _ => rfl⟩⟩
    rcases List.mem_cons.1 hcs with rfl | hcs'
    · rw [e0] at hreach he'
      exact hQ a' w' G' (hst.trans hreach) he' q1 q2
    · obtain ⟨s1, e1, p, hp, hi⟩ := hiso c hcs'
      rw [e1] at hreach he'
      obtain ⟨G0, x0, R0, he0⟩ := iso_rel (s1 := s1) (s0 := s0) R he hreach.ext hreach.rel he' (fun t ht => evOps_dst (en1 := s1.1) (h1 := s1.2) e1 t (hdst c hcs t ht)) (fun t ht => evOps_dst (en1 := s0.1) (h1 := s0.2) e0 t (hdst c0 (by simp) t ht)) hi
      exact hQ a' w' G0 (hst.trans ⟨x0, R0, hreach.below⟩) he0 q1 q2
theorem regionMOf_wp {quiet : FuncId → Nat} (hm : P.follows .mixedOrders = true) (hq : QuietOk quiet call) (hc : CallOk P gl call) {id : Nat} {ops : Array Oper} {aops : List AOper} (hco : compOps P gl nt ops.toList ops.toList = some aops) :
    CodeOk P gl base nt (.region id ops true) (fun en h => evC call base n (regionMOf quiet ops.toList aops) en h) := by
  intro G en en' h h' a w ex Q hgl he R hb hsz hs hQ
  simp only [regionMOf] at hs
  split at hs
  · simp [evC] at hs
  · split at hs
    · split at hs
      · rename_i hok
        exact drawM_wp hm hq hc hco hok hgl he R hb hsz hs hQ
      · simp [evC] at hs
    · simp [evC] at hs
theorem code_wp {quiet : FuncId → Nat} {frz : Bool} (hm : P.follows .mixedOrders = true) (hq : QuietOk quiet call) (hc : CallOk P gl call) :
    ∀ {c : Code} {ac : ACode}, comp P gl quiet frz nt c = some ac → CodeOk P gl base nt c (fun en h => evC call base n ac en h) := by
  intro c
  induction c with
  | skip =>
    intro ac hco G en en' h h' a w ex Q hgl he R hb hsz hs hQ
    simp only [comp, Option.some.injEq] at hco
    subst hco
    simp only [evC, Option.some.injEq, Prod.mk.injEq] at hs
    obtain ⟨rfl, rfl, rfl⟩ := hs
    exact wp_skip (hQ a w G (Reach.refl R) he rfl rfl)
  | ret =>
    intro ac hco G en en' h h' a w ex Q hgl he R hb hsz hs hQ
    simp only [comp, Option.some.injEq] at hco
    subst hco
    simp only [evC, Option.some.injEq, Prod.mk.injEq] at hs
    obtain ⟨rfl, rfl, rfl⟩ := hs
    exact wp_ret (hQ a w G (Reach.refl R) he rfl rfl)
  | exit id =>
    intro ac hco G en en' h h' a w ex Q hgl he R hb hsz hs hQ
    simp only [comp, Option.some.injEq] at hco
    subst hco
    simp only [evC, Option.some.injEq, Prod.mk.injEq] at hs
    obtain ⟨rfl, rfl, rfl⟩ := hs
    exact wp_exit (hQ a w G (Reach.refl R) he rfl rfl)
  | seq x y ihx ihy =>
    intro ac hco G en en' h h' a w ex Q hgl he R hb hsz hs hQ
    simp only [comp, Option.bind_eq_some_iff, Option.map_eq_some_iff] at hco
    obtain ⟨ax, hx, ay, hy, rfl⟩ := hco
    simp only [evC] at hs
    refine wp_seq ?_
    split at hs
    · rename_i en1 h1 e1
      refine ihx hx hgl he R hb hsz e1 fun a' w' G' hreach he' q1 q2 => ?_
      refine ihy hy (hgl.ext hreach.ext) he' hreach.rel (Nat.le_trans hb (evC_grow hc hb e1).1) (by omega) hs fun a'' w'' G'' hreach' he'' r1 r2 => ?_
      exact hQ a'' w'' G'' (hreach.trans hreach') he'' (r1.trans q1) (r2.trans q2)
    · rename_i hno
      refine ihx hx hgl he R hb hsz hs fun a' w' G' hreach he' q1 q2 => ?_
      have := hQ a' w' G' hreach he' q1 q2
      cases ex with
      | normal => exact absurd hs (hno en' h')
      | exit id => exact this
      | ret => exact this
  | cond cnd x y ihx ihy =>
    intro ac hco G en en' h h' a w ex Q hgl he R hb hsz hs hQ
    simp only [comp, Option.bind_eq_some_iff, Option.map_eq_some_iff] at hco
    obtain ⟨cc, hcc, ax, hx, ay, hy, rfl⟩ := hco
    simp only [evC] at hs
    split at hs
    · rename_i t ht
      have hrep := opd_rep hgl he hcc
      rw [ht] at hrep
      refine wp_cond (t := t) hrep.sc_inv ?_
      split at hs
      · rename_i htt
        rw [if_pos htt]
        exact ihx hx hgl he R hb hsz hs hQ
      · rename_i htt
        rw [if_neg htt]
        exact ihy hy hgl he R hb hsz hs hQ
    · simp at hs
  | block id x ih =>
    intro ac hco G en en' h h' a w ex Q hgl he R hb hsz hs hQ
    simp only [comp, Option.map_eq_some_iff] at hco
    obtain ⟨ax, hx, rfl⟩ := hco
    simp only [evC] at hs
    refine wp_block ?_
    split at hs
    · rename_i i en1 h1 e1
      refine ih hx hgl he R hb hsz e1 fun a' w' G' hreach he' q1 q2 => ?_
      simp only [Ex.toExit, Exit.inBlock]
      split at hs
      · rename_i hi
        rw [if_pos hi]
        simp only [Option.some.injEq, Prod.mk.injEq] at hs
        obtain ⟨rfl, rfl, rfl⟩ := hs
        exact hQ a' w' G' hreach he' q1 q2
      · rename_i hi
        rw [if_neg hi]
        simp only [Option.some.injEq, Prod.mk.injEq] at hs
        obtain ⟨rfl, rfl, rfl⟩ := hs
        exact hQ a' w' G' hreach he' q1 q2
    · rename_i hno
      refine ih hx hgl he R hb hsz hs fun a' w' G' hreach he' q1 q2 => ?_
      have := hQ a' w' G' hreach he' q1 q2
      cases ex with
      | normal => exact this
      | exit i => exact absurd hs (hno i en' h')
      | ret => exact this
  | loop x ih =>
    intro ac hco G en en' h h' a w ex Q hgl he R hb hsz hs hQ
    simp only [comp, Option.map_eq_some_iff] at hco
    obtain ⟨ax, hx, rfl⟩ := hco
    simp only [evC] at hs
    exact wp_loop_rounds n (iter_wp (ih hx) (fun _ _ _ _ _ hb e => evC_grow hc hb e) n hgl he R hb hsz hs hQ)
  | region id ops draw =>
    intro ac hco G en en' h h' a w ex Q hgl he R hb hsz hs hQ
    simp only [comp, Option.bind_eq_some_iff, Option.some.injEq] at hco
    obtain ⟨aops, hx, rfl⟩ := hco
    cases frz with
    | true =>
      simp only [if_true] at hs
      have fin : ∀ {B : List AOper}, evC call base n (.region B) en h = some (ex, en', h') → (evOps call base B en h).map (fun r => (Ex.normal, r.1, r.2)) = some (ex, en', h') := by
        intro B e
        simp only [evC] at e
        split at e
        · rename_i en1 h1 e1
          rw [e1]; exact e
        · simp at e
      have hall := compOps_all (P := P) (gl := gl) (nt := nt) (all := ops.toList) 0 hx (fun j o hj => by simpa using hj)
      have hlen : aops.length = ops.toList.length := by
        have := hall.length
        simpa using this
      have hoff : ∀ (i : Nat) (y : AOper), aops[i]? = some y → y.off = [] := by
        intro i y hy
        have hi : i < ops.toList.length := by
          have := (List.getElem?_eq_some_iff.1 hy).1
          omega
        obtain ⟨y', hy', o, _, hco⟩ := hall.get i i (by rw [List.getElem?_range' hi]; simp)
        rw [hy] at hy'
        injection hy' with hy'
        subst hy'
        exact (compOper_inv hco).1
      cases draw with
      | false =>
        simp only [regionZ, Bool.not_false, if_true, evC] at hs
        split at hs
        · rename_i en1 h1 e1
          simp only [Option.some.injEq, Prod.mk.injEq] at hs
          obtain ⟨rfl, rfl, rfl⟩ := hs
          refine wp_region ?_
          have hall' : All2 (fun i ao => ∃ o, ops[i]? = some o ∧ Serves P gl nt ops.toList o ao) (List.range ops.size) (aops.map AOper.frz) := by
            rw [List.range_eq_range', ← Array.length_toList]
            refine All2.map_right AOper.frz (All2.mono ?_ hall)
            rintro i ao ⟨o, h1, h2⟩
            exact ⟨o, by rwa [Array.getElem?_toList] at h1, ao, h2, Stands.frz (compOper_inv h2).1⟩
          exact ops_wp hc hall' hgl he R hb hsz e1 hQ
        · simp at hs
      | true =>
        simp only [regionZ, Bool.not_true, Bool.false_eq_true, if_false] at hs
        split at hs
        · rename_i hok
          have hB : (aops.map AOper.frz).length = aops.length ∧ ∀ (i : Nat) (x y : AOper), (aops.map AOper.frz)[i]? = some x → aops[i]? = some y → Stands x y := by
            refine ⟨by simp, fun i x y h1 h2 => ?_⟩
            rw [List.getElem?_map, h2] at h1
            simp only [Option.map_some, Option.some.injEq] at h1
            subst h1
            exact Stands.frz (hoff i y h2)
          have whole : ∀ {B : List AOper} {n : Nat}, B.length = n → takeOrder B (List.range n) = B := by
            intro B n hn
            refine List.ext_getElem (by simp [takeOrder, hn]) fun i h1 h2 => ?_
            simp [takeOrder, List.getD, h2]
          have := fin hs
          rw [← whole (B := aops.map AOper.frz) (n := ops.toList.length) (by rw [List.length_map]; exact hlen)] at this
          exact draw_wp hm hq hc _ hx hB hok hgl he R hb hsz this hQ
        · simp [evC] at hs
    | false =>
    simp only [Bool.false_eq_true, if_false] at hs
    cases draw with
    | false =>
      simp only [Bool.false_eq_true, if_false, evC] at hs
      split at hs
      · rename_i en1 h1 e1
        simp only [Option.some.injEq, Prod.mk.injEq] at hs
        obtain ⟨rfl, rfl, rfl⟩ := hs
        refine wp_region ?_
        have hall := compOps_all (P := P) (gl := gl) (nt := nt) (all := ops.toList) 0 hx (fun j o hj => by simpa using hj)
        have hall' : All2 (fun i ao => ∃ o, ops[i]? = some o ∧ Serves P gl nt ops.toList o ao) (List.range ops.size) aops := by
          rw [List.range_eq_range', ← Array.length_toList]
          refine All2.mono ?_ hall
          rintro i ao ⟨o, h1, h2⟩
          exact ⟨o, by rwa [Array.getElem?_toList] at h1, ao, h2, Stands.refl _⟩
        exact fuse_wp hc aops hall' hgl he R hb hsz e1 hQ
      · simp at hs
    | true =>
      have fin : ∀ {B : List AOper}, evC call base n (.region B) en h = some (ex, en', h') → (evOps call base B en h).map (fun r => (Ex.normal, r.1, r.2)) = some (ex, en', h') := by
        intro B e
        simp only [evC] at e
        split at e
        · rename_i en1 h1 e1
          rw [e1]; exact e
        · simp at e
      have hoff : ∀ (i : Nat) (y : AOper), aops[i]? = some y → y.off = [] := by
        intro i y hy
        have hall := compOps_all (P := P) (gl := gl) (nt := nt) (all := ops.toList) 0 hx (fun j o hj => by simpa using hj)
        have hi : i < ops.toList.length := by
          have := hall.length
          simp only [List.length_range'] at this
          have := (List.getElem?_eq_some_iff.1 hy).1
          omega
        obtain ⟨y', hy', o, _, hco⟩ := hall.get i i (by rw [List.getElem?_range' hi]; simp)
        rw [hy] at hy'
        injection hy' with hy'
        subst hy'
        exact (compOper_inv hco).1
      have whole : ∀ {B : List AOper} {n : Nat}, B.length = n → takeOrder B (List.range n) = B := by
        intro B n hn
        refine List.ext_getElem (by simp [takeOrder, hn]) fun i h1 h2 => ?_
        simp [takeOrder, List.getD, h2]
      have hlen : aops.length = ops.toList.length := by
        have hall := compOps_all (P := P) (gl := gl) (nt := nt) (all := ops.toList) 0 hx (fun j o hj => by simpa using hj)
        have := hall.length
        simpa using this
      have mapSt : ∀ (g : AOper → AOper), (∀ y : AOper, y.off = [] → Stands (g y) y) → (aops.map g).length = aops.length ∧ ∀ (i : Nat) (x y : AOper), (aops.map g)[i]? = some x → aops[i]? = some y → Stands x y := by
        intro g hg
        refine ⟨by simp, fun i x y h1 h2 => ?_⟩
        rw [List.getElem?_map, h2] at h1
        simp only [Option.map_some, Option.some.injEq] at h1
        subst h1
        exact hg y (hoff i y h2)
      have same : aops.length = aops.length ∧ ∀ (i : Nat) (x y : AOper), aops[i]? = some x → aops[i]? = some y → Stands x y :=
        ⟨rfl, fun i x y h1 h2 => by rw [h1] at h2; injection h2 with h2; rw [h2]; exact Stands.refl _⟩
      simp only [if_true, regionOf, Bool.not_true, Bool.false_eq_true, if_false] at hs
      split at hs
      · rename_i hok
        have := fin hs
        rw [← whole hlen] at this
        exact draw_wp hm hq hc _ hx same hok hgl he R hb hsz this hQ
      · split at hs
        · rename_i hok
          exact draw_wp hm hq hc _ hx same hok hgl he R hb hsz (fin hs) hQ
        · split at hs
          · rename_i hok
            exact draw_wp hm hq hc _ hx (mapSt _ fun y hy => Stands.keep _ hy) hok hgl he R hb hsz (fin hs) hQ
          · split at hs
            · split at hs
              · rename_i hok
                refine draw_wpK hm hq hc _ hx (grwAll_ok fun i y hy f args ts e => ?_) hok hgl he R hb hsz (fin hs) hQ
                have hall := compOps_all (P := P) (gl := gl) (nt := nt) (all := ops.toList) 0 hx (fun j o hj => by simpa using hj)
                have hi : i < ops.toList.length := by
                  have := hall.length
                  simp only [List.length_range'] at this
                  have := (List.getElem?_eq_some_iff.1 hy).1
                  omega
                obtain ⟨y', hy', o, _, hco⟩ := hall.get i i (by rw [List.getElem?_range' hi]; simp)
                rw [hy] at hy'
                injection hy' with hy'
                subst hy'
                exact compOper_noK hco e
              · exact regionMOf_wp hm hq hc hx hgl he R hb hsz hs hQ
            split at hs
            · rename_i p hfind
              exact drawL_wp hm hq hc _ p hx ⟨rfl, fun i x y h1 h2 => by rw [h1] at h2; injection h2 with h2; subst h2; exact ⟨Stands.refl _, fun _ => rfl⟩⟩ (List.find?_some hfind) hgl he R hb hsz (fin hs) hQ
            · split at hs
              rotate_left
              · split at hs
                · rename_i p hfind
                  refine drawL_wp hm hq hc _ p hx ⟨(mapSt _ fun y hy => Stands.frz hy).1, fun i x y h1 h2 => ⟨(mapSt _ fun y hy => Stands.frz hy).2 i x y h1 h2, fun hl => ?_⟩⟩ (List.find?_some hfind) hgl he R hb hsz (fin hs) hQ
                  rw [List.getElem?_map, h2] at h1
                  simp only [Option.map_some, Option.some.injEq] at h1
                  subst h1
                  obtain ⟨dst, op, g, off⟩ := y
                  simp only [AOper.frz] at hl ⊢
                  cases op <;> simp [AOp.frz, AOp.lay] at hl ⊢
                · exact regionMOf_wp hm hq hc hx hgl he R hb hsz hs hQ
              rename_i hok
              have := fin hs
              rw [← whole (B := aops.map AOper.frz) (n := ops.toList.length) (by rw [List.length_map]; exact hlen)] at this
              exact draw_wp hm hq hc _ hx (mapSt _ fun y hy => Stands.frz hy) hok hgl he R hb hsz this hQ
  | rangeFunc f ps asg body ih1 ih2 =>
    intro ac hco G en en' h h' a w ex Q hgl he R hb hsz hs hQ
    simp only [comp, Option.some.injEq] at hco
    subst hco
    simp [evC] at hs
  | scope x ih =>
    intro ac hco G en en' h h' a w ex Q hgl he R hb hsz hs hQ
    simp only [comp, Option.some.injEq] at hco
    subst hco
    simp [evC] at hs
  | label l =>
    intro ac hco G en en' h h' a w ex Q hgl he R hb hsz hs hQ
    simp only [comp, Option.some.injEq] at hco
    subst hco
    simp [evC] at hs
  | goto l =>
    intro ac hco G en en' h h' a w ex Q hgl he R hb hsz hs hQ
    simp only [comp, Option.some.injEq] at hco
    subst hco
    simp [evC] at hs
  | refuse why =>
    intro ac hco G en en' h h' a w ex Q hgl he R hb hsz hs hQ
    simp only [comp, Option.some.injEq] at hco
    subst hco
    simp [evC] at hs
end
end
section
open Go.RowKit (Below)
section
variable {P : Program} {gl : Nat → Option (List V)}
theorem res_run {G : Tie} {h : Heap} {en : Env} {a : Act} {w : World} {nt : Nat} (he : RepEnv G en a.tmps) (R : Rel G h w) : ∀ {rs : List ResultVar} {ars : List ARes} {vs : List V}, compRes P nt rs = some ars → ze en h ars = some vs →
    ∃ rv : List Value, RepL G vs rv ∧ (rs.mapM (fun r => (match r with
      | .tmp t => pure (a.tmps.getD t undef)
      | .cell c t => do loadVar t (← asAddr (a.tmps.getD c undef)) : Sem Value))).run P w = .ok rv w
  | [], ars, vs, hc, hs => by
    simp only [compRes, Option.some.injEq] at hc
    subst hc
    simp only [ze, Option.some.injEq] at hs
    subst hs
    exact ⟨[], by simp [RepL], by simp⟩
  | .tmp t :: rs, ars, vs, hc, hs => by
    simp only [compRes] at hc
    split at hc
    · simp only [Option.map_eq_some_iff] at hc
      obtain ⟨r, hr, rfl⟩ := hc
      simp only [ze, zd, Option.bind_some, Option.map_eq_some_iff] at hs
      obtain ⟨us, hu, rfl⟩ := hs
      obtain ⟨rv, h1, h2⟩ := res_run he R hr hu
      refine ⟨_ :: rv, by simp only [RepL]; exact ⟨_, _, rfl, he t, h1⟩, ?_⟩
      rw [List.mapM_cons]
      simp only [Sem.run_bind, Sem.run_pure, Result.andThen_ok, h2]
    · simp at hc
  | .cell c t :: rs, ars, vs, hc, hs => by
    simp only [compRes, Option.bind_eq_some_iff] at hc
    obtain ⟨n, hn, hc⟩ := hc
    split at hc
    · simp only [Option.map_eq_some_iff] at hc
      obtain ⟨r, hr, rfl⟩ := hc
      simp only [ze, zd, Option.bind_eq_some_iff, Option.map_eq_some_iff] at hs
      obtain ⟨v, hv, us, hu, rfl⟩ := hs
      obtain ⟨rv, h1, h2⟩ := res_run he R hr hu
      obtain ⟨rx, h3, h4⟩ := load_run (P := P) R hn (he c) hv
      refine ⟨rx :: rv, by simp only [RepL]; exact ⟨_, _, rfl, h4, h1⟩, ?_⟩
      have hload : (do loadVar t (← asAddr (a.tmps.getD c undef)) : Sem Value).run P w = .ok rx w := by
        rw [loadV_eq, Option.bind_eq_some_iff] at hv
        obtain ⟨⟨cs, off⟩, hp, _⟩ := hv
        obtain ⟨b, o, hptr, _⟩ := R.cells hp (he c)
        rw [hptr] at h3 ⊢
        exact h3
      rw [List.mapM_cons]
      simp only [Sem.run_bind] at hload ⊢
      rw [hload]
      simp only [Sem.run_pure, Result.andThen_ok, h2]
    · simp at hc
theorem results_run {G : Tie} {h : Heap} {en : Env} {a : Act} {w : World} {nt : Nat} {fn : Func} {ars : List ARes} {vs : List V} (he : RepEnv G en a.tmps) (R : Rel G h w) (hc : compRes P nt fn.results.toList = some ars) (hs : ze en h ars = some vs) :
    ∃ r, (results fn a.tmps).run P w = .ok r w ∧ RepV G (za vs) r := by
  obtain ⟨rv, h1, h2⟩ := res_run (P := P) he R hc hs
  refine ⟨if h : rv.toArray.size = 1 then rv.toArray[0] else .tuple rv.toArray, ?_, ?_⟩
  · unfold results
    rw [Array.mapM_eq_mapM_toList]
    rw [Sem.run_bind, Sem.run_map]
    erw [h2]
    rfl
  · have hl := h1.length
    unfold za
    split
    · rename_i v
      simp only [RepL] at h1
      obtain ⟨r, rest, rfl, h3, rfl⟩ := h1
      simpa using h3
    · rename_i hne
      rw [dif_neg]
      · simp only [RepV]
        exact ⟨_, rfl, h1⟩
      · intro hsz
        simp only [List.size_toArray] at hsz
        rw [hl] at hsz
        match vs, hsz, hne with
        | [v], _, hne => exact hne v rfl
        | [], hsz, _ => simp at hsz
        | _ :: _ :: _, hsz, _ => simp at hsz
structure FnOk (P : Program) (gl : Nat → Option (List V)) (quiet : FuncId → Nat) (f : FuncId) (A : AFunc) : Prop where
  fn : ∃ fn, P.funcs[f]? = some fn ∧ (fn.name == "runtime.NumGoroutine") = false ∧ compFunc P (glz A.frz A.bz A.br gl) quiet A.pure A.frz A.bz A.br fn = some A
theorem HeapOk.take {n m : Nat} {h : Heap} (ho : HeapOk n h) (hn : n ≤ m) : HeapOk n (h.take m) := by
  intro b hb
  have : (h.take m)[b]? = h[b]? := List.getElem?_take_of_lt (by omega)
  rw [this]
  exact ho b hb
theorem GlobOk.glz {G : Tie} {gl : Nat → Option (List V)} (h : GlobOk G gl) (z : Bool) (ts rs : List Nat) : GlobOk G (glz z ts rs gl) := by
  intro g cs e
  unfold Am.glz at e
  split at e
  · injection e with e
    subst e
    simp only [RepV]
    exact ⟨g, 0, rfl, by simp, by simp [RepF]⟩
  · exact h g cs e
theorem GlobOk.unglz {G : Tie} {gl : Nat → Option (List V)} {z : Bool} {ts rs : List Nat} (hz : ∀ g, lookNo ≤ g → gl g = none) (h : GlobOk G (Am.glz z ts rs gl)) : GlobOk G gl := by
  intro g cs e
  refine h g cs ?_
  unfold Am.glz
  rw [if_neg]
  · exact e
  · intro hc
    simp only [Bool.or_eq_true, Bool.and_eq_true, beq_iff_eq, List.any_eq_true] at hc
    have : lookNo ≤ g := by
      unfold rowNo at hc
      unfold lookNo at hc ⊢
      rcases hc with (hc | ⟨t, _, hc⟩) | ⟨t, _, hc⟩ <;> omega
    rw [hz g this] at e
    simp at e
theorem CallOk.glz {P : Program} {gl : Nat → Option (List V)} {call : CallF} (hz : ∀ g, lookNo ≤ g → gl g = none) (h : CallOk P gl call) (z : Bool) (ts rs : List Nat) : CallOk P (Am.glz z ts rs gl) call :=
  ⟨h.grow, fun base f args hh r h' hs hb G w vals hgl R hv => h.runs base f args hh r h' hs hb G w vals (hgl.unglz hz) R hv⟩
theorem func_grow {call : CallF} (hc : CallOk P gl call) {n base : Nat} {A : AFunc} {args : List V} {h h' : Heap} {v : V} (hb : base ≤ h.length) (hs : evFunc call n base A args h = some (v, h')) : Grow base h h' := by
  unfold evFunc at hs
  split at hs
  · simp only at hs
    split at hs
    · simp at hs
    · rename_i ex en h1 hno e1
      simp only [Option.bind_eq_some_iff] at hs
      obtain ⟨rs, _, hs⟩ := hs
      split at hs
      · rename_i hp
        simp only [hp, if_true] at e1
        have g := evC_grow hc (Nat.le_refl _) e1
        simp only [Option.map_eq_some_iff, Prod.mk.injEq] at hs
        obtain ⟨_, _, _, rfl⟩ := hs
        have g1 := g.1
        refine ⟨by simp; omega, fun m h1' h2 ho => ?_⟩
        exact (g.2 m h2 h2 ho).take h2
      · rename_i hp
        simp only [hp, Bool.false_eq_true, if_false] at e1
        injection hs with hs
        simp only [Prod.mk.injEq] at hs
        rw [← hs.2]
        exact evC_grow hc hb e1
    · simp at hs
  · simp at hs
theorem func_runs {quiet : FuncId → Nat} {call : CallF} (hq : QuietOk quiet call) (hc : CallOk P gl call) (hd : P.follows .mixedOrders = true) (hz : ∀ g, lookNo ≤ g → gl g = none) {n base : Nat} {f : FuncId} {A : AFunc} (hf : FnOk P gl quiet f A) {args : List V} {h h' : Heap} {r : V} (hb : base ≤ h.length)
    (hs : evFunc call n base A args h = some (r, h')) {G : Tie} {w : World} {vals : Array Value} (hgl : GlobOk G gl) (R : Rel G h w) (hv : RepL G args vals.toList) :
    CallsF P f vals w fun rv w' => ∃ G', Reach G w h' w' G' ∧ RepV G' r rv := by
  obtain ⟨fn, hfn, hname, hcf⟩ := hf.fn
  simp only [compFunc, Option.bind_eq_some_iff, Option.map_eq_some_iff] at hcf
  obtain ⟨c, hbody, ac, hac, ars, hars, hA⟩ := hcf
  replace hc := hc.glz hz A.frz A.bz A.br
  replace hgl := hgl.glz A.frz A.bz A.br
  unfold CallsF
  have henter : (callFunc f vals).run P w = .ok (.enter f vals) w := by
    have hname' : ¬ fn.name = "runtime.NumGoroutine" := by simpa using hname
    simp [callFunc, hfn, hname', hbody]
  rw [henter]
  simp only
  unfold evFunc at hs
  split at hs
  case isFalse => simp at hs
  rename_i hlen
  simp only at hs
  split at hs
  · simp at hs
  · rename_i ex en h1 hno e1
    simp only [Option.bind_eq_some_iff] at hs
    obtain ⟨rs, hres, hs⟩ := hs
    have hAb : A.body = ac := by rw [← hA]
    have hAr : A.results = ars := by rw [← hA]
    have hvl : vals.size = args.length := by rw [← Array.length_toList]; exact hv.length
    refine calls_of_wp hfn hbody ?_
    have he0 : RepEnv G (fun t => args.getD t .undef) (vals ++ Array.replicate (fn.ntmps - vals.size) undef) := by
      intro t
      by_cases ht : t < args.length
      · obtain ⟨rv, h2, h3⟩ := hv.get (i := t) (c := args[t]) (List.getElem?_eq_getElem ht)
        rw [Array.getElem?_toList] at h2
        have e2 : (vals ++ Array.replicate (fn.ntmps - vals.size) undef).getD t undef = rv := by
          have hlt : t < vals.size := by omega
          rw [Array.getElem?_eq_getElem hlt] at h2
          injection h2 with h2
          simp [Array.getD, hlt, h2]
          omega
        rw [e2]
        simpa [List.getD, ht] using h3
      · simp [List.getD, ht, RepV]
    have hcode : CodeOk P (glz A.frz A.bz A.br gl) (if A.pure then h.length else base) fn.ntmps c (fun en h0 => evC call (if A.pure then h.length else base) n A.body en h0) := by
      rw [hAb]
      exact code_wp hd hq hc hac
    refine hcode hgl he0 R (by split <;> omega) (by simp; omega) e1 fun a' w' G' hreach he' q1 q2 => ?_
    rw [hAr] at hres
    obtain ⟨rv, h2, h3⟩ := results_run (P := P) he' hreach.rel hars hres
    have fin : ∃ G'', Reach G w h' w' G'' ∧ RepV G'' r rv := by
      split at hs
      · rename_i hp
        simp only [hp, if_true] at e1 hs
        simp only [Option.map_eq_some_iff, Prod.mk.injEq] at hs
        obtain ⟨v', hfz, rfl, rfl⟩ := hs
        have g := evC_grow hc (Nat.le_refl _) e1
        have ho := g.2 h.length (Nat.le_refl _) (Nat.le_refl _) R.heapOk
        refine ⟨G'.cut h1 w' h.length, ⟨hreach.ext.cut hreach.rel R.n, hreach.rel.cut ho g.1, hreach.below⟩, (freeze_rep hreach.rel n).1 hfz h3⟩
      · injection hs with hs
        simp only [Prod.mk.injEq] at hs
        obtain ⟨rfl, rfl⟩ := hs
        exact ⟨G', hreach, h3⟩
    have hd0 : a'.defers = [] := q2
    cases ex with
    | normal => exact ⟨hd0, rv, h2, fin⟩
    | ret => exact ⟨hd0, rv, h2, fin⟩
    | exit id => exact absurd rfl (hno id)
  · simp at hs
def ExtOk (P : Program) (gl : Nat → Option (List V)) (f : FuncId) (g : Nat → List V → Heap → Option (V × Heap)) : Prop :=
  (∀ base args h r h', g base args h = some (r, h') → base ≤ h.length → Grow base h h') ∧
  (∀ base args h r h', g base args h = some (r, h') → base ≤ h.length → ∀ G w vals, GlobOk G gl → Rel G h w → RepL G args vals.toList →
    CallsF P f vals w fun rv w' => ∃ G', Reach G w h' w' G' ∧ RepV G' r rv)
theorem call_ok {X : FuncId → Option (Nat → List V → Heap → Option (V × Heap))} {F : FuncId → Option AFunc} {quiet : FuncId → Nat} (hd : P.follows .mixedOrders = true) (hz : ∀ g, lookNo ≤ g → gl g = none) (hq : ∀ n, QuietOk quiet (evCall X F n))
    (hX : ∀ f g, X f = some g → ExtOk P gl f g) (hF : ∀ f A, F f = some A → FnOk P gl quiet f A) : ∀ n, CallOk P gl (evCall X F n)
  | 0 => ⟨fun _ _ _ _ _ _ hs => by simp [evCall] at hs, fun _ _ _ _ _ _ hs => by simp [evCall] at hs⟩
  | n + 1 => by
    have ih := call_ok hd hz hq hX hF n
    refine ⟨fun base f args h r h' hs hb => ?_, fun base f args h r h' hs hb G w vals hgl R hv => ?_⟩
    · unfold evCall at hs
      split at hs
      · rename_i g hg
        exact (hX f g hg).1 _ _ _ _ _ hs hb
      · split at hs
        · exact func_grow ih hb hs
        · simp at hs
    · unfold evCall at hs
      split at hs
      · rename_i g hg
        exact (hX f g hg).2 _ _ _ _ _ hs hb G w vals hgl R hv
      · split at hs
        · rename_i A hA
          exact func_runs (hq n) ih hd hz (hF f A hA) hb hs hgl R hv
        · simp at hs
end
end
section
open Go.RowKit (Below)
def AOp.calm (quiet : FuncId → Nat) (op : AOp) : Bool := op.reads || op.grows quiet
def ACode.calm (quiet : FuncId → Nat) : ACode → Bool
  | .skip | .ret | .exit _ | .fail => true
  | .seq a b | .cond _ a b => a.calm quiet && b.calm quiet
  | .region ops => ops.all fun o => o.op.calm quiet
  | .regionM .. => false
  | .block _ c | .loop c => c.calm quiet
section
variable {call : CallF} {base n : Nat} {quiet : FuncId → Nat}
theorem calm_val (hq : QuietOk quiet call) {o : AOper} {en : Env} {h h' : Heap} {v : V} (hc : o.op.calm quiet = true) (hs : evVal call base o en h = some (v, h')) : ∃ ext, h' = h ++ ext := by
  simp only [AOp.calm, Bool.or_eq_true] at hc
  rcases hc with hc | hc
  · exact ⟨[], by rw [(evVal_reads hc hs).1, List.append_nil]⟩
  · exact evVal_grows hq hc hs
theorem calm_ops (hq : QuietOk quiet call) : ∀ {ops : List AOper} {en en' : Env} {h h' : Heap}, (ops.all fun o => o.op.calm quiet) = true → evOps call base ops en h = some (en', h') → ∃ ext, h' = h ++ ext
  | [], en, en', h, h', _, hs => by
    simp only [evOps, Option.some.injEq, Prod.mk.injEq] at hs
    exact ⟨[], by rw [hs.2, List.append_nil]⟩
  | o :: ops, en, en', h, h', hc, hs => by
    simp only [List.all_cons, Bool.and_eq_true] at hc
    rw [evOps_cons, Option.bind_eq_some_iff] at hs
    obtain ⟨⟨v, h1⟩, e1, e2⟩ := hs
    obtain ⟨x, rfl⟩ := calm_val hq hc.1 e1
    obtain ⟨y, rfl⟩ := calm_ops hq hc.2 e2
    exact ⟨x ++ y, by simp⟩
theorem calm_iter {f : Env → Heap → Option (Ex × Env × Heap)} (hf : ∀ en h ex en' h', f en h = some (ex, en', h') → ∃ ext, h' = h ++ ext) :
    ∀ (k : Nat) {en en' : Env} {h h' : Heap} {ex : Ex}, iter f k en h = some (ex, en', h') → ∃ ext, h' = h ++ ext
  | 0, _, _, _, _, _, hs => by simp [iter] at hs
  | k + 1, en, en', h, h', ex, hs => by
    unfold iter at hs
    split at hs
    · rename_i en1 h1 e1
      obtain ⟨x, rfl⟩ := hf _ _ _ _ _ e1
      obtain ⟨y, rfl⟩ := calm_iter hf k hs
      exact ⟨x ++ y, by simp⟩
    · exact hf _ _ _ _ _ hs
theorem calm_code (hq : QuietOk quiet call) : ∀ {c : ACode} {en en' : Env} {h h' : Heap} {ex : Ex}, c.calm quiet = true → evC call base n c en h = some (ex, en', h') → ∃ ext, h' = h ++ ext
  | .skip, _, _, _, _, _, _, hs => by simp only [evC, Option.some.injEq, Prod.mk.injEq] at hs; exact ⟨[], by rw [hs.2.2, List.append_nil]⟩
  | .ret, _, _, _, _, _, _, hs => by simp only [evC, Option.some.injEq, Prod.mk.injEq] at hs; exact ⟨[], by rw [hs.2.2, List.append_nil]⟩
  | .exit id, _, _, _, _, _, _, hs => by simp only [evC, Option.some.injEq, Prod.mk.injEq] at hs; exact ⟨[], by rw [hs.2.2, List.append_nil]⟩
  | .fail, _, _, _, _, _, _, hs => by simp [evC] at hs
  | .seq a b, en, en', h, h', ex, hc, hs => by
    simp only [ACode.calm, Bool.and_eq_true] at hc
    simp only [evC] at hs
    split at hs
    · rename_i en1 h1 e1
      obtain ⟨x, rfl⟩ := calm_code hq hc.1 e1
      obtain ⟨y, rfl⟩ := calm_code hq hc.2 hs
      exact ⟨x ++ y, by simp⟩
    · exact calm_code hq hc.1 hs
  | .cond c a b, en, en', h, h', ex, hc, hs => by
    simp only [ACode.calm, Bool.and_eq_true] at hc
    simp only [evC] at hs
    split at hs
    · split at hs
      · exact calm_code hq hc.1 hs
      · exact calm_code hq hc.2 hs
    · simp at hs
  | .region ops, en, en', h, h', ex, hc, hs => by
    simp only [ACode.calm] at hc
    simp only [evC] at hs
    split at hs
    · rename_i en1 h1 e1
      simp only [Option.some.injEq, Prod.mk.injEq] at hs
      rw [← hs.2.2]
      exact calm_ops hq hc e1
    · simp at hs
  | .regionM .., en, en', h, h', ex, hc, hs => by simp [ACode.calm] at hc
  | .block id c, en, en', h, h', ex, hc, hs => by
    simp only [ACode.calm] at hc
    simp only [evC] at hs
    split at hs
    · rename_i i en1 h1 e1
      obtain ⟨x, rfl⟩ := calm_code hq hc e1
      split at hs
      · simp only [Option.some.injEq, Prod.mk.injEq] at hs
        exact ⟨x, hs.2.2.symm⟩
      · simp only [Option.some.injEq, Prod.mk.injEq] at hs
        exact ⟨x, hs.2.2.symm⟩
    · exact calm_code hq hc hs
  | .loop c, en, en', h, h', ex, hc, hs => by
    simp only [ACode.calm] at hc
    simp only [evC] at hs
    exact calm_iter (fun _ _ _ _ _ e => calm_code hq hc e) n hs
theorem calm_func (hq : QuietOk quiet call) {A : AFunc} {args : List V} {h h' : Heap} {v : V} (hc : A.body.calm quiet = true) (hs : evFunc call n base A args h = some (v, h')) : ∃ ext, h' = h ++ ext := by
  unfold evFunc at hs
  split at hs
  · simp only at hs
    split at hs
    · simp at hs
    · rename_i ex en h1 hno e1
      obtain ⟨x, rfl⟩ := calm_code hq hc e1
      simp only [Option.bind_eq_some_iff] at hs
      obtain ⟨rs, _, hs⟩ := hs
      split at hs
      · rename_i hp
        simp only [Option.map_eq_some_iff, Prod.mk.injEq] at hs
        obtain ⟨_, _, _, rfl⟩ := hs
        exact ⟨[], by simp⟩
      · simp only [Option.some.injEq, Prod.mk.injEq] at hs
        exact ⟨x, hs.2.symm⟩
    · simp at hs
  · simp at hs
end
def ACode.still (quiet : FuncId → Nat) : ACode → Bool
  | .skip | .ret | .exit _ | .fail => true
  | .seq a b | .cond _ a b => a.still quiet && b.still quiet
  | .block _ c | .loop c => c.still quiet
  | .region ops => ops.all fun o => o.op.inertQ quiet && o.off.isEmpty
  | .regionM .. => false
def ARes.still : ARes → Bool
  | .tmp _ => true
  | _ => false
def AFunc.still (quiet : FuncId → Nat) (A : AFunc) : Bool := !A.pure && A.results.all ARes.still && A.body.still quiet
section
variable {call : CallF} {base n : Nat} {quiet : FuncId → Nat}
theorem still_val (hq : QuietOk quiet call) {o : AOper} {en : Env} {h h' : Heap} {v : V} (hc : (o.op.inertQ quiet && o.off.isEmpty) = true) (hs : evVal call base o en h = some (v, h')) :
    h' = h ∧ ∀ b2 h2, evVal call b2 o en h2 = some (v, h2) := by
  simp only [Bool.and_eq_true] at hc
  obtain ⟨hi, hoff⟩ := hc
  refine ⟨(evVal_inertQ hq hi hs).1, fun b2 h2 => ?_⟩
  have key : evOper call base en h o = some (v, h') → evOper call b2 en h2 o = some (v, h2) := by
    intro e
    obtain ⟨ho, e⟩ := evOper_inv e
    refine evOper_of (by simp [offOk, List.isEmpty_iff.1 hoff]) ?_
    by_cases hin : o.op.inert = true
    · rw [evOp_noCall (inert_noCall hin)] at e ⊢
      exact (inert_step hin e).2 b2 h2
    · unfold AOp.inertQ at hi
      split at hi
      · rename_i k args eop
        rw [eop] at e ⊢
        simp only [evOp, Opd.get, zr, List.nil_append, List.append_nil] at e ⊢
        exact (hq.2 k (by simpa using hi) _ _ _ _ _ e).2 b2 h2
      · rename_i qs t args eop
        rw [eop] at e ⊢
        simp only [evOp] at e ⊢
        split at e
        · rename_i k vs ht
          exact (hq.2 k (by simpa using List.all_eq_true.1 hi k (qtmp_target ht)) _ _ _ _ _ e).2 b2 h2
        · simp at e
      · exact absurd hi hin
  unfold evVal at hs ⊢
  split at hs
  · exact key hs
  · rename_i g want hg
    cases hen : gOk (en g) want with
    | none => rw [hen] at hs; simp at hs
    | some t =>
      rw [hen] at hs
      cases t with
      | true => exact key hs
      | false =>
        simp only [Option.some.injEq, Prod.mk.injEq] at hs ⊢
        exact ⟨hs.1, trivial⟩
theorem still_ops (hq : QuietOk quiet call) : ∀ {ops : List AOper} {en en' : Env} {h h' : Heap}, (ops.all fun o => o.op.inertQ quiet && o.off.isEmpty) = true → evOps call base ops en h = some (en', h') →
    h' = h ∧ ∀ b2 h2, evOps call b2 ops en h2 = some (en', h2)
  | [], en, en', h, h', _, hs => by
    simp only [evOps, Option.some.injEq, Prod.mk.injEq] at hs ⊢
    exact ⟨hs.2.symm, fun _ _ => ⟨hs.1, trivial⟩⟩
  | o :: r, en, en', h, h', hc, hs => by
    simp only [List.all_cons, Bool.and_eq_true] at hc
    rw [evOps_cons, Option.bind_eq_some_iff] at hs
    obtain ⟨⟨v, h1⟩, e1, e2⟩ := hs
    obtain ⟨rfl, q1⟩ := still_val hq (by simpa using hc.1) e1
    obtain ⟨rfl, q2⟩ := still_ops hq (by simpa using hc.2) e2
    refine ⟨rfl, fun b2 h2 => ?_⟩
    rw [evOps_cons, q1 b2 h2]
    exact q2 b2 h2
theorem still_iter {f g : Env → Heap → Option (Ex × Env × Heap)} (hf : ∀ en h ex en' h', f en h = some (ex, en', h') → h' = h ∧ ∀ h2, g en h2 = some (ex, en', h2)) :
    ∀ (k : Nat) {en en' : Env} {h h' : Heap} {ex : Ex}, iter f k en h = some (ex, en', h') → h' = h ∧ ∀ h2, iter g k en h2 = some (ex, en', h2)
  | 0, _, _, _, _, _, hs => by simp [iter] at hs
  | k + 1, en, en', h, h', ex, hs => by
    unfold iter at hs
    split at hs
    · rename_i en1 h1 e1
      obtain ⟨rfl, q1⟩ := hf _ _ _ _ _ e1
      obtain ⟨rfl, q2⟩ := still_iter hf k hs
      refine ⟨rfl, fun h2 => ?_⟩
      unfold iter
      rw [q1 h2]
      exact q2 h2
    · rename_i hno
      obtain ⟨rfl, q1⟩ := hf _ _ _ _ _ hs
      refine ⟨rfl, fun h2 => ?_⟩
      unfold iter
      rw [q1 h2]
      cases ex with
      | normal => exact absurd hs (hno _ _)
      | exit i => rfl
      | ret => rfl
theorem still_code (hq : QuietOk quiet call) : ∀ {c : ACode} {en en' : Env} {h h' : Heap} {ex : Ex}, c.still quiet = true → evC call base n c en h = some (ex, en', h') →
    h' = h ∧ ∀ b2 h2, evC call b2 n c en h2 = some (ex, en', h2)
  | .skip, _, _, _, _, _, _, hs => by simp only [evC, Option.some.injEq, Prod.mk.injEq] at hs ⊢; exact ⟨hs.2.2.symm, fun _ _ => ⟨hs.1, hs.2.1, trivial⟩⟩
  | .ret, _, _, _, _, _, _, hs => by simp only [evC, Option.some.injEq, Prod.mk.injEq] at hs ⊢; exact ⟨hs.2.2.symm, fun _ _ => ⟨hs.1, hs.2.1, trivial⟩⟩
  | .exit i, _, _, _, _, _, _, hs => by simp only [evC, Option.some.injEq, Prod.mk.injEq] at hs ⊢; exact ⟨hs.2.2.symm, fun _ _ => ⟨hs.1, hs.2.1, trivial⟩⟩
  | .fail, _, _, _, _, _, _, hs => by simp [evC] at hs
  | .seq a b, en, en', h, h', ex, hc, hs => by
    simp only [ACode.still, Bool.and_eq_true] at hc
    unfold evC at hs
    split at hs
    · rename_i en1 h1 e1
      obtain ⟨rfl, q1⟩ := still_code hq hc.1 e1
      obtain ⟨rfl, q2⟩ := still_code hq hc.2 hs
      refine ⟨rfl, fun b2 h2 => ?_⟩
      unfold evC
      rw [q1 b2 h2]
      exact q2 b2 h2
    · rename_i hno
      obtain ⟨rfl, q1⟩ := still_code hq hc.1 hs
      refine ⟨rfl, fun b2 h2 => ?_⟩
      unfold evC
      rw [q1 b2 h2]
      cases ex with
      | normal => exact absurd hs (hno _ _)
      | exit i => rfl
      | ret => rfl
  | .cond c a b, en, en', h, h', ex, hc, hs => by
    simp only [ACode.still, Bool.and_eq_true] at hc
    unfold evC at hs
    split at hs
    · rename_i t et
      cases t with
      | true =>
        obtain ⟨rfl, q1⟩ := still_code hq hc.1 hs
        exact ⟨rfl, fun b2 h2 => by unfold evC; rw [et]; exact q1 b2 h2⟩
      | false =>
        obtain ⟨rfl, q1⟩ := still_code hq hc.2 hs
        exact ⟨rfl, fun b2 h2 => by unfold evC; rw [et]; exact q1 b2 h2⟩
    · simp at hs
  | .region ops, en, en', h, h', ex, hc, hs => by
    simp only [ACode.still] at hc
    unfold evC at hs
    split at hs
    · rename_i en1 h1 e1
      obtain ⟨rfl, q1⟩ := still_ops hq hc e1
      simp only [Option.some.injEq, Prod.mk.injEq] at hs
      obtain ⟨rfl, rfl, rfl⟩ := hs
      exact ⟨rfl, fun b2 h2 => by unfold evC; rw [q1 b2 h2]⟩
    · simp at hs
  | .regionM .., en, en', h, h', ex, hc, hs => by simp [ACode.still] at hc
  | .block id c, en, en', h, h', ex, hc, hs => by
    simp only [ACode.still] at hc
    unfold evC at hs
    split at hs
    · rename_i i en1 h1 e1
      obtain ⟨rfl, q1⟩ := still_code hq hc e1
      split at hs
      · rename_i hi
        simp only [Option.some.injEq, Prod.mk.injEq] at hs
        obtain ⟨rfl, rfl, rfl⟩ := hs
        exact ⟨rfl, fun b2 h2 => by unfold evC; rw [q1 b2 h2]; simp only [if_pos hi]⟩
      · rename_i hi
        simp only [Option.some.injEq, Prod.mk.injEq] at hs
        obtain ⟨rfl, rfl, rfl⟩ := hs
        exact ⟨rfl, fun b2 h2 => by unfold evC; rw [q1 b2 h2]; simp only [if_neg hi]⟩
    · rename_i hno
      obtain ⟨rfl, q1⟩ := still_code hq hc hs
      refine ⟨rfl, fun b2 h2 => ?_⟩
      unfold evC
      rw [q1 b2 h2]
      cases ex with
      | exit i => exact absurd hs (hno _ _ _)
      | normal => rfl
      | ret => rfl
  | .loop c, en, en', h, h', ex, hc, hs => by
    simp only [ACode.still] at hc
    unfold evC at hs
    refine ⟨(still_iter (g := fun en h => evC call base n c en h) (fun en h ex en' h' e => ⟨(still_code hq hc e).1, (still_code hq hc e).2 base⟩) n hs).1, fun b2 h2 => ?_⟩
    unfold evC
    exact (still_iter (g := fun en h => evC call b2 n c en h) (fun en h ex en' h' e => ⟨(still_code hq hc e).1, (still_code hq hc e).2 b2⟩) n hs).2 h2
theorem still_res {en : Env} {h : Heap} : ∀ {rs : List ARes} {vs : List V}, rs.all ARes.still = true → ze en h rs = some vs → ∀ h2, ze en h2 rs = some vs
  | [], vs, _, hs, h2 => hs
  | .tmp t :: rs, vs, hc, hs, h2 => by
    simp only [List.all_cons, Bool.and_eq_true] at hc
    simp only [ze, zd, Option.bind_some, Option.map_eq_some_iff] at hs ⊢
    obtain ⟨us, hu, rfl⟩ := hs
    exact ⟨us, still_res hc.2 hu h2, rfl⟩
  | .cell a b :: rs, vs, hc, hs, h2 => by simp [ARes.still] at hc
theorem still_func (hq : QuietOk quiet call) {A : AFunc} {args : List V} {h h' : Heap} {v : V} (hc : A.still quiet = true) (hs : evFunc call n base A args h = some (v, h')) :
    h' = h ∧ ∀ b2 h2, evFunc call n b2 A args h2 = some (v, h2) := by
  simp only [AFunc.still, Bool.and_eq_true, Bool.not_eq_true'] at hc
  obtain ⟨⟨hp, hr⟩, hb⟩ := hc
  unfold evFunc at hs
  split at hs
  · rename_i hl
    simp only [hp, Bool.false_eq_true, if_false] at hs
    split at hs
    · simp at hs
    · rename_i ex en h1 hno e1
      obtain ⟨rfl, q1⟩ := still_code hq hb e1
      simp only [Option.bind_eq_some_iff, Option.some.injEq, Prod.mk.injEq] at hs
      obtain ⟨rs, e2, e3, rfl⟩ := hs
      refine ⟨rfl, fun b2 h2 => ?_⟩
      unfold evFunc
      rw [if_pos hl]
      simp only [hp, Bool.false_eq_true, if_false]
      rw [q1 b2 h2]
      cases ex with
      | exit i => exact (hno i rfl).elim
      | normal => simp only [still_res hr e2 h2, Option.bind_some, e3]
      | ret => simp only [still_res hr e2 h2, Option.bind_some, e3]
    · simp at hs
  · simp at hs
end
theorem quiet_ok {X : FuncId → Option (Nat → List V → Heap → Option (V × Heap))} {F : FuncId → Option AFunc} {quiet : FuncId → Nat}
    (hX : ∀ f g, quiet f ≠ 0 → X f = some g → (∀ base args h v h', g base args h = some (v, h') → ∃ ext, h' = h ++ ext) ∧ quiet f ≠ 2)
    (hF : ∀ f A, quiet f ≠ 0 → X f = none → F f = some A → A.body.calm quiet = true ∧ (quiet f = 2 → A.still quiet = true)) : ∀ n, QuietOk quiet (evCall X F n)
  | 0 => ⟨fun _ _ _ _ _ _ _ hs => by simp [evCall] at hs, fun _ _ _ _ _ _ _ hs => by simp [evCall] at hs⟩
  | n + 1 => by
    have ih := quiet_ok hX hF n
    refine ⟨fun k hk base args h v h' hs => ?_, fun k hk base args h v h' hs => ?_⟩
    · unfold evCall at hs
      split at hs
      · rename_i g hg
        exact (hX k g hk hg).1 _ _ _ _ _ hs
      · rename_i hg
        split at hs
        · rename_i A hA
          exact calm_func ih (hF k A hk hg hA).1 hs
        · simp at hs
    · have hk0 : quiet k ≠ 0 := by rw [hk]; simp
      unfold evCall at hs
      split at hs
      · rename_i g hg
        exact absurd hk (hX k g hk0 hg).2
      · rename_i hg
        split at hs
        · rename_i A hA
          obtain ⟨q1, q2⟩ := still_func ih ((hF k A hk0 hg hA).2 hk) hs
          refine ⟨q1, fun b2 h2 => ?_⟩
          unfold evCall
          rw [hg]
          simp only [hA]
          exact q2 b2 h2
        · simp at hs
section
variable {P : Program} {gl : Nat → Option (List V)}
def xSame : Nat → List V → Heap → Option (V × Heap) := fun _ args h => match args with
  | [x] => some (x, h)
  | _ => none
theorem xSame_ok {f : FuncId} {fn : Func} (hf : P.funcs[f]? = some fn) (hname : (fn.name == "runtime.NumGoroutine") = false) (hb : fn.body.isNone = true) (hn : Extern.findNext fn = none) (he : Extern.find fn = some Extern.AbiNoEscape.same) : ExtOk P gl f xSame := by
  have inv : ∀ base args h r h', xSame base args h = some (r, h') → args = [r] ∧ h' = h := by
    intro base args h r h' hs
    unfold xSame at hs
    split at hs
    · simp only [Option.some.injEq, Prod.mk.injEq] at hs
      obtain ⟨rfl, rfl⟩ := hs
      exact ⟨rfl, rfl⟩
    · simp at hs
  refine ⟨fun base args h r h' hs hl => ?_, fun base args h r h' hs hl G w vals hgl R hv => ?_⟩
  · rw [(inv _ _ _ _ _ hs).2]; exact Grow.refl _ _
  · obtain ⟨rfl, rfl⟩ := inv _ _ _ _ _ hs
    simp only [RepL] at hv
    obtain ⟨rv, rest, hvals, h1, rfl⟩ := hv
    have hvals : vals = #[rv] := by rw [← Array.toArray_toList (xs := vals), hvals]
    subst hvals
    unfold CallsF
    rw [run_callFunc_extern hf hname hb hn he]
    have : (Extern.AbiNoEscape.same #[rv]).run P w = .ok rv w := rfl
    rw [this]
    exact ⟨G, Reach.refl R, h1⟩
def xMake (e : TypeId) : Nat → List V → Heap → Option (V × Heap) := fun _ args h => match args with
  | [.sc (.int .i64 n)] => if 0 ≤ n ∧ n.toNat ≤ lim then some (.hsl h.length 0 0 n.toNat, h ++ [.row e 1 0 []]) else none
  | _ => none
theorem xMake_ok {f : FuncId} {fn : Func} {ps : Array TypeId} {t e : TypeId} (hf : P.funcs[f]? = some fn) (hname : (fn.name == "runtime.NumGoroutine") = false) (hb : fn.body.isNone = true) (hn : Extern.findNext fn = none)
    (he : Extern.find fn = some (Extern.BytealgMakeNoZero.makeNoZero ps #[t])) (ht : P.underlying t = some (.slice e)) : ExtOk P gl f (xMake e) := by
  have inv : ∀ base args h r h', xMake e base args h = some (r, h') → ∃ n : Int, args = [.sc (.int .i64 n)] ∧ 0 ≤ n ∧ n.toNat ≤ lim ∧ r = .hsl h.length 0 0 n.toNat ∧ h' = h ++ [.row e 1 0 []] := by
    intro base args h r h' hs
    unfold xMake at hs
    split at hs
    · rename_i n
      split at hs
      · rename_i hc
        simp only [Option.some.injEq, Prod.mk.injEq] at hs
        obtain ⟨rfl, rfl⟩ := hs
        exact ⟨n, rfl, hc.1, hc.2, rfl, rfl⟩
      · simp at hs
    · simp at hs
  refine ⟨fun base args h r h' hs hl => ?_, fun base args h r h' hs hl G w vals hgl R hv => ?_⟩
  · obtain ⟨n, _, _, _, _, rfl⟩ := inv _ _ _ _ _ hs
    exact Grow.app _ _ _
  · obtain ⟨n, rfl, h0, hlim, rfl, rfl⟩ := inv _ _ _ _ _ hs
    simp only [RepL] at hv
    obtain ⟨rv, rest, hvals, h1, rfl⟩ := hv
    have h1 := h1.sc_inv
    subst h1
    have hvals : vals = #[.int .i64 n] := by rw [← Array.toArray_toList (xs := vals), hvals]
    subst hvals
    obtain ⟨cs, hrun, hcs, _⟩ := Lib.run_makeNoZero (P := P) w ps t e ht n.toNat (by unfold lim at hlim; omega)
    rw [Int.toNat_of_nonneg h0] at hrun
    unfold CallsF
    rw [run_callFunc_extern hf hname hb hn he, hrun]
    refine ⟨G.newRow ⟨0, 1, w.heap.size, cs.size, _⟩, ⟨Ext.newRow G _, R.drew.drew.newRow e (by omega) (by simp) (by simp) (fun i c hi => by simp at hi), ?_⟩, ?_⟩
    · exact ⟨((Below.refl _ _).drew.drew).alloc R.hb0 _, fun c hc => heap_alloc_lt w.drew.drew _ c (R.kp c hc).1⟩
    · simp only [RepV]
      refine ⟨by simp [Tie.newRow, R.n], _, _, rfl, fun L hL => ?_⟩
      simp only [Tie.newRow, R.n, if_true, Option.some.injEq] at hL
      subst hL
      exact ⟨Nat.le_refl _, fun _ => ⟨hcs, ⟨by simp, by simp⟩, fun _ => by simp⟩⟩
theorem xSame_grows : ∀ (base : Nat) (args : List V) (h : Heap) (v : V) (h' : Heap), xSame base args h = some (v, h') → ∃ ext, h' = h ++ ext := by
  intro base args h v h' hs
  unfold xSame at hs
  split at hs
  · simp only [Option.some.injEq, Prod.mk.injEq] at hs
    exact ⟨[], by simp [hs.2]⟩
  · simp at hs
theorem xMake_grows {e : TypeId} : ∀ (base : Nat) (args : List V) (h : Heap) (v : V) (h' : Heap), xMake e base args h = some (v, h') → ∃ ext, h' = h ++ ext := by
  intro base args h v h' hs
  unfold xMake at hs
  split at hs
  · split at hs
    · simp only [Option.some.injEq, Prod.mk.injEq] at hs
      exact ⟨_, hs.2.symm⟩
    · simp at hs
  · simp at hs
end
end
section
open Go.RowKit (Below)
def bytesAt (h : Heap) : V → Option (List UInt8)
  | .sc (.string s) => some s.data.toList
  | x => (elems 1 h x).bind bytesIn
def xIndexByte : Nat → List V → Heap → Option (V × Heap) := fun _ args h => match args with
  | [x, .sc (.int .u8 c)] => (bytesAt h x).map fun l => (.sc (.int .i64 (Lib.indexByte l c.toNat.toUInt8)), h)
  | _ => none
def xCount : Nat → List V → Heap → Option (V × Heap) := fun _ args h => match args with
  | [x, .sc (.int .u8 c)] => (bytesAt h x).map fun l => (.sc (.int .i64 ((l.foldl (fun n y => if y == c.toNat.toUInt8 then n + 1 else n) (0 : Nat) : Nat) : Int)), h)
  | _ => none
section
variable {P : Program} {gl : Nat → Option (List V)} {G : Tie} {h : Heap} {w : World}
theorem bytesOf_run {x : V} {r : Value} {l : List UInt8} (R : Rel G h w) (hx : RepV G x r) (hb : bytesAt h x = some l) : (Extern.Bytes.bytesOf r).run P w = .ok ⟨l.toArray⟩ w := by
  unfold bytesAt at hb
  split at hb
  · rename_i s
    injection hb with hb
    subst hb
    rw [hx.sc_inv]
    simp [Extern.Bytes.bytesOf]
  · simp only [Option.bind_eq_some_iff] at hb
    obtain ⟨rows, he, hb⟩ := hb
    obtain ⟨a, cap, rs, rfl, _, hf, hc⟩ := elems_run R hx he
    obtain ⟨ns, rfl, rfl⟩ := bytesIn_map hb
    by_cases hne : ns = []
    · subst hne
      cases a with
      | none => simp [Extern.Bytes.bytesOf]; rfl
      | some a => simp [Extern.Bytes.bytesOf, Extern.Bytes.loadBytes]; rfl
    · obtain ⟨b, o, rfl, h3⟩ := hc (by simpa using hne)
      have hl := Lib.run_loadBytesX (P := P) w ns ⟨b, o, none⟩ .empty (fun j n hj => by
        rw [add_none]
        have hjl := (List.getElem?_eq_some_iff.1 hj).1
        obtain ⟨_, h4⟩ := hf.2 j [V.sc (.int .u8 n)] (by simp [hj])
        obtain ⟨v, h5, h6⟩ := h4 0 _ rfl
        have := h6.sc_inv
        subst this
        exact h3 j _ (by simpa using h5))
      simp only [List.length_map, Extern.Bytes.bytesOf]
      rw [hl]
      congr 1
      apply ByteArray.ext
      show (#[] : Array UInt8) ++ _ = _
      simp [Lib.bytesOf]
theorem ext_of {f : FuncId} {fn : Func} {g : Nat → List V → Heap → Option (V × Heap)} {m : Array Value → Sem Value} (hf : P.funcs[f]? = some fn) (hname : (fn.name == "runtime.NumGoroutine") = false) (hb : fn.body.isNone = true) (hn : Extern.findNext fn = none) (he : Extern.find fn = some m)
    (inv : ∀ base args h r h', g base args h = some (r, h') → h' = h ∧ ∀ (G : Tie) (w : World) (vals : List Value), Rel G h w → RepL G args vals → ∃ rv, (m vals.toArray).run P w = .ok rv w ∧ RepV G r rv) : ExtOk P gl f g := by
  refine ⟨fun base args h r h' hs hl => ?_, fun base args h r h' hs hl G w vals hgl R hv => ?_⟩
  · rw [(inv _ _ _ _ _ hs).1]; exact Grow.refl _ _
  · obtain ⟨rfl, q⟩ := inv _ _ _ _ _ hs
    obtain ⟨rv, h1, h2⟩ := q G w _ R hv
    unfold CallsF
    rw [run_callFunc_extern hf hname hb hn he]
    rw [Array.toArray_toList] at h1
    rw [h1]
    exact ⟨G, Reach.refl R, h2⟩
theorem xIndexByte_ok {f : FuncId} {fn : Func} (hf : P.funcs[f]? = some fn) (hname : (fn.name == "runtime.NumGoroutine") = false) (hb : fn.body.isNone = true) (hn : Extern.findNext fn = none) (he : Extern.find fn = some Extern.BytealgIndexByte.indexByte) : ExtOk P gl f xIndexByte := by
  refine ext_of hf hname hb hn he fun base args h r h' hs => ?_
  unfold xIndexByte at hs
  split at hs
  · rename_i x c
    simp only [Option.map_eq_some_iff, Prod.mk.injEq] at hs
    obtain ⟨l, hl, rfl, rfl⟩ := hs
    refine ⟨rfl, fun G w vals R hv => ?_⟩
    simp only [RepL] at hv
    obtain ⟨r1, rest, rfl, h1, r2, rest2, rfl, h2, rfl⟩ := hv
    have h2 := h2.sc_inv
    subst h2
    refine ⟨.int .i64 (Lib.indexByte l c.toNat.toUInt8), ?_, RepV.int _ _ _⟩
    have hs := Lib.run_indexByteString (P := P) ⟨l.toArray⟩ c w
    have hbr := bytesOf_run (P := P) R h1 hl
    change Sem.run P (do
      let b ← Extern.Bytes.bytesOf r1
      let c ← Extern.Bytes.asByte (.int .u8 c)
      match (List.range b.size).find? fun i => b[i]! == c with
      | some i => pure (goInt i)
      | none => pure (goInt (-1))) w = _
    change Sem.run P (do
      let b ← Extern.Bytes.bytesOf (.string ⟨l.toArray⟩)
      let c ← Extern.Bytes.asByte (.int .u8 c)
      match (List.range b.size).find? fun i => b[i]! == c with
      | some i => pure (goInt i)
      | none => pure (goInt (-1))) w = _ at hs
    simp only [Extern.Bytes.bytesOf, Sem.run_bind, Sem.run_pure, Result.andThen] at hs
    simp only [Sem.run_bind, hbr, Result.andThen]
    exact hs
  · simp at hs
end
theorem xIndexByte_grows : ∀ (base : Nat) (args : List V) (h : Heap) (v : V) (h' : Heap), xIndexByte base args h = some (v, h') → ∃ ext, h' = h ++ ext := by
  intro base args h v h' hs
  unfold xIndexByte at hs
  split at hs
  · simp only [Option.map_eq_some_iff, Prod.mk.injEq] at hs
    obtain ⟨_, _, _, rfl⟩ := hs
    exact ⟨[], by simp⟩
  · simp at hs
end
end Go.Am
