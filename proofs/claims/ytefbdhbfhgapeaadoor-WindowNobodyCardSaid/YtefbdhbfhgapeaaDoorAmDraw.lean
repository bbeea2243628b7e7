/- Am: operations that may change places. -/
import Derived.Test.YtefbdhbfhgapeaaDoorAmComp2
namespace Go.Am

theorem gets_congr {en en' : Env} : ∀ {l : List Opd}, (∀ t ∈ opdTmps l, en t = en' t) → getsO en l = getsO en' l
  | [], _ => rfl
  | .tmp t :: r, h => by
    simp only [opdTmps, List.mem_cons, forall_eq_or_imp] at h
    simp only [getsO, Opd.get, h.1, gets_congr h.2]
  | .val _ :: r, h => by
    simp only [opdTmps] at h
    simp only [getsO, Opd.get, gets_congr h]

theorem opdTmps_append : ∀ (a b : List Opd), opdTmps (a ++ b) = opdTmps a ++ opdTmps b
  | [], b => rfl
  | .tmp t :: r, b => by simp [opdTmps, opdTmps_append r b]
  | .val _ :: r, b => by simp [opdTmps, opdTmps_append r b]

theorem mem_opdTmps {t : Nat} : ∀ {l : List Opd}, t ∈ opdTmps l ↔ Opd.tmp t ∈ l
  | [] => by simp [opdTmps]
  | .tmp u :: r => by simp [opdTmps, mem_opdTmps (l := r)]
  | .val _ :: r => by simp [opdTmps, mem_opdTmps (l := r)]

theorem get_congr {en en' : Env} {l : List Opd} (h : ∀ t ∈ opdTmps l, en t = en' t) {x : Opd} (hx : x ∈ l) : x.get en = x.get en' := by
  cases x with
  | val v => rfl
  | tmp t => exact h t (mem_opdTmps.2 hx)

theorem parts_congr {en en' : Env} : ∀ {l : List (Nat × Nat × Opd)}, (∀ x ∈ l.map (·.2.2), x.get en = x.get en') → getParts en l = getParts en' l
  | [], _ => rfl
  | (a, b, x) :: r, h => by
    simp only [List.map_cons, List.mem_cons, forall_eq_or_imp] at h
    simp only [getParts, h.1, parts_congr h.2]

theorem parts2_congr {en en' : Env} : ∀ {l : List (Nat × Opd)}, (∀ x ∈ l.map (·.2), x.get en = x.get en') → getParts2 en l = getParts2 en' l
  | [], _ => rfl
  | (a, x) :: r, h => by
    simp only [List.map_cons, List.mem_cons, forall_eq_or_imp] at h
    simp only [getParts2, h.1, parts2_congr h.2]

theorem bound_congr {en en' : Env} {d : Nat} {x : Option Opd} (h : ∀ y ∈ oO x, y.get en = y.get en') : boundO en d x = boundO en' d x := by
  cases x with
  | none => rfl
  | some x => simp only [boundO, h x (by simp [oO])]

/-- One operation hangs on its operands and memory alone. -/
theorem step_congr {base : Nat} {en en' : Env} {h : Heap} {op : AOp} (he : ∀ t ∈ opdTmps op.opds, en t = en' t) : step base en h op = step base en' h op := by
  have hg : ∀ x ∈ op.opds, x.get en = x.get en' := fun x hx => get_congr he hx
  have hl : ∀ l : List Opd, (∀ x ∈ l, x ∈ op.opds) → getsO en l = getsO en' l := fun l hsub => gets_congr fun t ht => he t (mem_opdTmps.2 (hsub _ (mem_opdTmps.1 ht)))
  cases op
  case build zs ps => simp only [step, parts_congr (by simpa [AOp.opds] using hg)]
  case bslice w t sz zs n ps => simp only [step, parts2_congr (by simpa [AOp.opds] using hg)]
  case makeFunc f a c => simp only [step, hl a (by simp [AOp.opds]; intro x hx; exact .inl hx), hl c (by simp [AOp.opds]; intro x hx; exact .inr hx)]
  case mnmx m xs => simp only [step, hl xs (by simp [AOp.opds])]
  case call f xs => simp only [step]
  case sliceStr x lo hi =>
    simp only [AOp.opds, List.mem_cons, List.mem_append] at hg
    simp only [step, hg x (.inl rfl), bound_congr (x := lo) (fun y hy => hg y (.inr (.inl hy)))]
    split
    · simp only [bound_congr (x := hi) (fun y hy => hg y (.inr (.inr hy)))]
    · rfl
  case sliceArr n sz x lo hi =>
    simp only [AOp.opds, List.mem_cons, List.mem_append] at hg
    simp only [step, hg x (.inl rfl), bound_congr (x := lo) (fun y hy => hg y (.inr (.inl hy))), bound_congr (x := hi) (fun y hy => hg y (.inr (.inr hy)))]
  case sliceArrF n sz x lo hi =>
    simp only [AOp.opds, List.mem_cons, List.mem_append] at hg
    simp only [step, hg x (.inl rfl), bound_congr (x := lo) (fun y hy => hg y (.inr (.inl hy))), bound_congr (x := hi) (fun y hy => hg y (.inr (.inr hy)))]
  case slice sz x lo hi mx =>
    simp only [AOp.opds, List.mem_cons, List.mem_append] at hg
    simp only [step, hg x (.inl rfl), bound_congr (x := lo) (fun y hy => hg y (.inr (.inl (.inl hy))))]
    cases hi <;> cases mx <;> simp [oO] at hg ⊢ <;> simp [hg]
  all_goals
    simp [AOp.opds] at hg
    simp only [step]
    try simp only [hg]

theorem inert_step {base : Nat} {en : Env} {h h' : Heap} {op : AOp} {v : V} (hi : op.inert = true) (hs : step base en h op = some (v, h')) :
    h' = h ∧ ∀ b2 h2, step b2 en h2 op = some (v, h2) := by
  have fin : ∀ {x : Option V}, x.map (fun v => (v, h)) = some (v, h') → h' = h ∧ ∀ h2 : Heap, x.map (fun v => (v, h2)) = some (v, h2) := by
    intro x hx
    simp only [Option.map_eq_some_iff, Prod.mk.injEq] at hx
    obtain ⟨a, rfl, rfl, rfl⟩ := hx
    exact ⟨rfl, fun _ => rfl⟩
  cases op <;> simp [AOp.inert] at hi <;> simp only [step] at hs ⊢
  all_goals try exact ⟨(fin hs).1, fun _ h2 => (fin hs).2 h2⟩
  all_goals try (simp only [Option.some.injEq, Prod.mk.injEq] at hs; obtain ⟨rfl, rfl⟩ := hs; exact ⟨rfl, fun _ _ => rfl⟩)
  all_goals try (exfalso; simp at hs; done)
  all_goals try (simp only [Option.bind_eq_some_iff] at hs; obtain ⟨a, ha, hs⟩ := hs; simp only [ha, Option.bind_some])
  all_goals try exact ⟨(fin hs).1, fun _ h2 => (fin hs).2 h2⟩
  all_goals try (split at hs <;> first | (exfalso; simp at hs; done) | (simp only [Option.some.injEq, Prod.mk.injEq] at hs; obtain ⟨rfl, rfl⟩ := hs; exact ⟨rfl, fun _ _ => rfl⟩) | exact ⟨(fin hs).1, fun _ h2 => (fin hs).2 h2⟩)
  all_goals try (simp only [Option.map_eq_some_iff, Prod.mk.injEq] at hs; obtain ⟨a, ha, rfl, rfl⟩ := hs; exact ⟨rfl, fun _ _ => by rw [ha]; rfl⟩)
  case eqAgg =>
    split at hs
    · simp only [Option.map_eq_some_iff, Prod.mk.injEq] at hs
      obtain ⟨a, ha, rfl, rfl⟩ := hs
      exact ⟨rfl, fun _ _ => by rw [ha]; rfl⟩
    · simp at hs
  case sliceStr =>
    split at hs
    · simp only [Option.bind_eq_some_iff] at hs
      obtain ⟨a, ha, b, hb, hs⟩ := hs
      simp only [ha, hb, Option.bind_some]
      split at hs
      · rename_i hc
        simp only [Option.some.injEq, Prod.mk.injEq] at hs; obtain ⟨rfl, rfl⟩ := hs; exact ⟨rfl, fun _ _ => by rw [if_pos hc]⟩
      · simp at hs
    · simp at hs
  case indexA =>
    split at hs
    · rename_i hc
      simp only [Option.map_eq_some_iff, Prod.mk.injEq] at hs; obtain ⟨a, ha, rfl, rfl⟩ := hs; exact ⟨rfl, fun _ _ => by rw [if_pos hc, ha]; rfl⟩
    · simp at hs
  all_goals
    split at hs
    all_goals try (exfalso; simp at hs; done)
    all_goals try exact ⟨(fin hs).1, fun _ h2 => (fin hs).2 h2⟩
    all_goals try (simp only [Option.map_eq_some_iff, Prod.mk.injEq] at hs; obtain ⟨a, ha, rfl, rfl⟩ := hs; exact ⟨rfl, fun _ _ => by rw [ha]; rfl⟩)
    all_goals try (simp only [Option.some.injEq, Prod.mk.injEq] at hs; obtain ⟨rfl, rfl⟩ := hs; exact ⟨rfl, fun _ _ => by simp_all⟩)
  all_goals
    split at hs
    all_goals try (exfalso; simp at hs; done)
    all_goals try exact ⟨(fin hs).1, fun _ h2 => (fin hs).2 h2⟩
    all_goals try (simp only [Option.map_eq_some_iff, Prod.mk.injEq] at hs; obtain ⟨a, ha, rfl, rfl⟩ := hs; exact ⟨rfl, fun _ _ => by simp_all⟩)
    all_goals try (simp only [Option.some.injEq, Prod.mk.injEq] at hs; obtain ⟨rfl, rfl⟩ := hs; exact ⟨rfl, fun _ _ => by simp_all⟩)

theorem reads_step {base : Nat} {en : Env} {h h' : Heap} {op : AOp} {v : V} (hi : op.reads = true) (hs : step base en h op = some (v, h')) : h' = h ∧ ∀ b2, step b2 en h op = some (v, h) := by
  by_cases hin : op.inert = true
  · exact ⟨(inert_step hin hs).1, fun b2 => (inert_step hin hs).2 b2 h⟩
  cases op <;> simp [AOp.reads, AOp.inert] at hi hin
  case load n a =>
    simp only [step] at hs ⊢
    simp only [Option.map_eq_some_iff, Prod.mk.injEq] at hs; obtain ⟨a, ha, rfl, rfl⟩ := hs; exact ⟨rfl, fun _ => by rw [ha]; rfl⟩
  case strOf x =>
    simp only [step] at hs ⊢
    simp only [Option.bind_eq_some_iff] at hs; obtain ⟨a, ha, hs⟩ := hs; simp only [ha, Option.bind_some]
    simp only [Option.map_eq_some_iff, Prod.mk.injEq] at hs; obtain ⟨a, ha, rfl, rfl⟩ := hs; exact ⟨rfl, fun _ => by rw [ha]; rfl⟩
  case indexS sz x i =>
    simp only [step] at hs ⊢
    simp only [Option.bind_eq_some_iff] at hs; obtain ⟨a, ha, hs⟩ := hs; simp only [ha, Option.bind_some]
    simp only [Option.map_eq_some_iff, Prod.mk.injEq] at hs; obtain ⟨a, ha, rfl, rfl⟩ := hs; exact ⟨rfl, fun _ => by rw [ha]; rfl⟩
  case uncast x =>
    simp only [step, Option.map_eq_some_iff, Prod.mk.injEq] at hs ⊢; obtain ⟨a, ha, rfl, rfl⟩ := hs; exact ⟨rfl, fun _ => ⟨_, ha, rfl, trivial⟩⟩
  case cast u s x =>
    simp only [step, Option.map_eq_some_iff, Prod.mk.injEq] at hs ⊢; obtain ⟨a, ha, rfl, rfl⟩ := hs; exact ⟨rfl, fun _ => ⟨_, ha, rfl, trivial⟩⟩
  case eqPtr neg x y =>
    simp only [step, Option.map_eq_some_iff, Prod.mk.injEq] at hs ⊢; obtain ⟨a, ha, rfl, rfl⟩ := hs; exact ⟨rfl, fun _ => ⟨_, ha, rfl, trivial⟩⟩
  case sliceData x =>
    simp only [step, Option.map_eq_some_iff, Prod.mk.injEq] at hs ⊢; obtain ⟨a, ha, rfl, rfl⟩ := hs; exact ⟨rfl, fun _ => ⟨_, ha, rfl, trivial⟩⟩
  case sliceArr n sz x lo hi =>
    have he : h' = h := by
      simp only [step] at hs
      split at hs
      · split at hs
        · simp only [Option.some.injEq, Prod.mk.injEq] at hs; exact hs.2.symm
        · simp at hs
      · split at hs
        · split at hs
          · simp only [Option.some.injEq, Prod.mk.injEq] at hs; exact hs.2.symm
          · simp at hs
        · simp at hs
      · simp at hs
    subst he
    exact ⟨rfl, fun _ => by simpa only [step] using hs⟩
  case slice sz x lo hi' mx =>
    cases mx with
    | some m => simp at hi
    | none =>
      have key : ∀ {l : Nat} {e : Option Nat} {h' : Heap}, sliceV h sz (x.get en) l e none = some (v, h') → h' = h := by
        intro l e h' hs
        unfold sliceV at hs
        split at hs
        · split at hs
          · simp only [Option.some.injEq, Prod.mk.injEq] at hs; exact hs.2.symm
          · simp at hs
        · split at hs
          · split at hs
            · split at hs
              · simp only [Option.some.injEq, Prod.mk.injEq] at hs; exact hs.2.symm
              · simp at hs
            · simp at hs
          · simp at hs
        · split at hs
          · simp only [Option.some.injEq, Prod.mk.injEq] at hs; exact hs.2.symm
          · simp at hs
        · simp at hs
      have he : h' = h := by
        simp only [step, Option.bind_eq_some_iff] at hs
        obtain ⟨l, _, hs⟩ := hs
        cases hi' with
        | none => exact key hs
        | some e =>
          simp only [Option.bind_eq_some_iff] at hs
          obtain ⟨_, _, hs⟩ := hs
          exact key hs
      subst he
      exact ⟨rfl, fun b2 => by simpa only [step] using hs⟩

/-! ### Reads in other memory -/

/-- The blocks that an operation's operands lead into. -/
def foot (en : Env) (op : AOp) (b : Nat) : Prop := ∃ x ∈ op.opds, blockOf (x.get en) = some b

theorem rowAt_mono {h h' : Heap} {b e : Nat} {r} (hk : ∀ o, h[b]? = some o → h'[b]? = some o) (hr : rowAt h b e = some r) : rowAt h' b e = some r := by
  unfold rowAt at hr ⊢
  cases hb : h[b]? with
  | none => rw [hb] at hr; simp at hr
  | some o => rw [hk o hb]; rw [hb] at hr; exact hr

theorem boxAt_mono {h h' : Heap} {b : Nat} {r} (hk : ∀ o, h[b]? = some o → h'[b]? = some o) (hr : boxAt h b = some r) : boxAt h' b = some r := by
  unfold boxAt at hr ⊢
  cases hb : h[b]? with
  | none => rw [hb] at hr; simp at hr
  | some o => rw [hk o hb]; rw [hb] at hr; exact hr

theorem elems_mono {h h' : Heap} {sz : Nat} {x : V} {r} (hk : ∀ b o, blockOf x = some b → h[b]? = some o → h'[b]? = some o) (hr : elems sz h x = some r) : elems sz h' x = some r := by
  unfold elems at hr ⊢
  split at hr
  · exact hr
  · rename_i b e off len
    cases hra : rowAt h b e with
    | none => rw [hra] at hr; simp at hr
    | some p => rw [rowAt_mono (fun o => hk b o rfl) hra]; rw [hra] at hr; exact hr
  · exact hr
  · simp at hr

theorem loadV_mono {h h' : Heap} {n : Option Nat} {x : V} {r} (hk : ∀ b o, blockOf x = some b → h[b]? = some o → h'[b]? = some o) (hr : loadV h n x = some r) : loadV h' n x = some r := by
  unfold loadV at hr ⊢
  split at hr
  · rename_i b off
    cases hb : h[b]? with
    | none => rw [hb] at hr; simp at hr
    | some o => simp only [hk b o rfl hb]; rw [hb] at hr; exact hr
  · rename_i b e i off
    cases hra : rowAt h b e with
    | none => rw [hra] at hr; simp at hr
    | some p => simp only [rowAt_mono (fun o => hk b o rfl) hra]; rw [hra] at hr; exact hr
  · exact hr
  · simp at hr

theorem indexV_mono {h h' : Heap} {s k : Nat} {x : V} {r} (hk : ∀ b o, blockOf x = some b → h[b]? = some o → h'[b]? = some o) (hr : indexV h s k x = some r) : indexV h' s k x = some r := by
  unfold indexV at hr ⊢
  split at hr
  · exact hr
  · rename_i b e off len
    cases hra : rowAt h b e with
    | none => rw [hra] at hr; simp at hr
    | some p => simp only [rowAt_mono (fun o => hk b o rfl) hra]; rw [hra] at hr; exact hr
  · simp at hr

theorem sliceV_mono {h h' : Heap} {sz lo : Nat} {hi : Option Nat} {x : V} {r} (hk : ∀ b o, blockOf x = some b → h[b]? = some o → h'[b]? = some o) (hr : sliceV h sz x lo hi none = some (r, h)) : sliceV h' sz x lo hi none = some (r, h') := by
  unfold sliceV at hr ⊢
  split at hr
  · split at hr
    · rename_i hc
      rw [if_pos hc]
      simp only [Option.some.injEq, Prod.mk.injEq] at hr ⊢
      exact ⟨hr.1, trivial⟩
    · simp at hr
  · rename_i b ep off len
    split at hr
    · rename_i hc
      rw [if_pos hc]
      cases hb : h[b]? with
      | none => rw [hb] at hr; simp at hr
      | some o =>
        rw [hk b o rfl hb]
        rw [hb] at hr
        cases o with
        | row t z e' rs =>
          simp only at hr ⊢
          split at hr
          · rename_i hz
            rw [if_pos hz]
            simp only [Option.some.injEq, Prod.mk.injEq] at hr ⊢
            exact ⟨hr.1, trivial⟩
          · simp at hr
        | _ => simp at hr
    · simp at hr
  · split at hr
    · rename_i hc
      rw [if_pos hc]
      simp only [Option.some.injEq, Prod.mk.injEq] at hr ⊢
      exact ⟨hr.1, trivial⟩
    · simp at hr
  · simp at hr

theorem samePtr_mono {h h' : Heap} {x y : V} {r} (hx : ∀ b o, blockOf x = some b → h[b]? = some o → h'[b]? = some o) (hy : ∀ b o, blockOf y = some b → h[b]? = some o → h'[b]? = some o) (hr : samePtr h x y = some r) : samePtr h' x y = some r := by
  unfold samePtr at hr ⊢
  split at hr
  · exact hr
  · exact hr
  · exact hr
  · rename_i b o c p
    simp only [Option.bind_eq_some_iff, Option.map_eq_some_iff] at hr ⊢
    obtain ⟨u, h1, v, h2, h3⟩ := hr
    exact ⟨u, boxAt_mono (fun o => hx b o rfl) h1, v, boxAt_mono (fun o => hy c o rfl) h2, h3⟩
  · simp at hr

theorem read_mono {base : Nat} {en : Env} {h h' : Heap} {op : AOp} {v : V} (hi : op.reads = true) (hk : ∀ b o, foot en op b → h[b]? = some o → h'[b]? = some o) (hs : step base en h op = some (v, h)) :
    step base en h' op = some (v, h') := by
  by_cases hin : op.inert = true
  · exact (inert_step hin hs).2 base h'
  cases op <;> simp [AOp.reads, AOp.inert] at hi hin
  case load n a =>
    simp only [step, Option.map_eq_some_iff, Prod.mk.injEq] at hs ⊢
    obtain ⟨r, h1, h2, _⟩ := hs
    exact ⟨r, loadV_mono (fun b o e => hk b o ⟨a, by simp [AOp.opds], e⟩) h1, h2, trivial⟩
  case strOf x =>
    simp only [step, Option.bind_eq_some_iff, Option.map_eq_some_iff, Prod.mk.injEq] at hs ⊢
    obtain ⟨r, h1, l, h2, h3, _⟩ := hs
    exact ⟨r, elems_mono (fun b o e => hk b o ⟨x, by simp [AOp.opds], e⟩) h1, l, h2, h3, trivial⟩
  case indexS sz x i =>
    simp only [step, Option.bind_eq_some_iff, Option.map_eq_some_iff, Prod.mk.injEq] at hs ⊢
    obtain ⟨k, h0, r, h1, h2, _⟩ := hs
    exact ⟨k, h0, r, indexV_mono (fun b o e => hk b o ⟨x, by simp [AOp.opds], e⟩) h1, h2, trivial⟩
  case uncast x =>
    simp only [step, Option.map_eq_some_iff, Prod.mk.injEq] at hs ⊢
    obtain ⟨r, h1, h2, _⟩ := hs
    refine ⟨r, ?_, h2, trivial⟩
    have hk' : ∀ b o, blockOf (x.get en) = some b → h[b]? = some o → h'[b]? = some o := fun b o e => hk b o ⟨x, by simp [AOp.opds], e⟩
    clear h2
    generalize x.get en = y at h1 hk'
    unfold uncastV at h1 ⊢
    split at h1
    · exact h1
    · rename_i b off
      simp only [Option.bind_eq_some_iff] at h1 ⊢
      obtain ⟨p, h2, h3⟩ := h1
      exact ⟨p, boxAt_mono (fun o => hk' b o rfl) h2, h3⟩
    · simp at h1
  case cast u s x =>
    simp only [step, Option.map_eq_some_iff, Prod.mk.injEq] at hs ⊢
    obtain ⟨r, h1, h2, _⟩ := hs
    refine ⟨r, ?_, h2, trivial⟩
    have hk' : ∀ b o, blockOf (x.get en) = some b → h[b]? = some o → h'[b]? = some o := fun b o e => hk b o ⟨x, by simp [AOp.opds], e⟩
    clear h2
    generalize x.get en = y at h1 hk'
    unfold castV at h1 ⊢
    split at h1
    · exact h1
    · rename_i b
      simp only [Option.bind_eq_some_iff] at h1 ⊢
      obtain ⟨p, h2, h3⟩ := h1
      exact ⟨p, boxAt_mono (fun o => hk' b o rfl) h2, h3⟩
    · simp at h1
  case eqPtr neg x y =>
    simp only [step, Option.map_eq_some_iff, Prod.mk.injEq] at hs ⊢
    obtain ⟨r, h1, h2, _⟩ := hs
    exact ⟨r, samePtr_mono (fun b o e => hk b o ⟨x, by simp [AOp.opds], e⟩) (fun b o e => hk b o ⟨y, by simp [AOp.opds], e⟩) h1, h2, trivial⟩
  case sliceData x =>
    simp only [step, Option.map_eq_some_iff, Prod.mk.injEq] at hs ⊢
    obtain ⟨r, h1, h2, _⟩ := hs
    refine ⟨r, ?_, h2, trivial⟩
    have hk' : ∀ b o, blockOf (x.get en) = some b → h[b]? = some o → h'[b]? = some o := fun b o e => hk b o ⟨x, by simp [AOp.opds], e⟩
    clear h2
    generalize x.get en = y at h1 hk'
    unfold sliceDataV at h1 ⊢
    split at h1
    · exact h1
    · rename_i b e off len
      cases hra : rowAt h b e with
      | none => rw [hra] at h1; simp at h1
      | some p => simp only [rowAt_mono (fun o => hk' b o rfl) hra]; rw [hra] at h1; exact h1
    · simp at h1
  case sliceArr n sz x lo hi =>
    have hk' : ∀ b o, blockOf (x.get en) = some b → h[b]? = some o → h'[b]? = some o := fun b o e => hk b o ⟨x, by simp [AOp.opds], e⟩
    simp only [step] at hs ⊢
    generalize x.get en = y at hs hk'
    split at hs
    · split at hs
      · rename_i hc
        simp only [Option.some.injEq, Prod.mk.injEq] at hs
        obtain ⟨rfl, _⟩ := hs
        simp [*]
      · simp at hs
    · rename_i b ep l e e1 e2
      split at hs
      · rename_i z rs hra
        split at hs
        · rename_i hc
          simp only [Option.some.injEq, Prod.mk.injEq] at hs
          obtain ⟨rfl, _⟩ := hs
          simp only [rowAt_mono (fun o => hk' b o rfl) hra, if_pos hc]
        · simp at hs
      · simp at hs
    · simp at hs
  case slice sz x lo hi' mx =>
    cases mx with
    | some m => simp at hi
    | none =>
      have hk' : ∀ b o, blockOf (x.get en) = some b → h[b]? = some o → h'[b]? = some o := fun b o e => hk b o ⟨x, by simp [AOp.opds], e⟩
      simp only [step, Option.bind_eq_some_iff] at hs ⊢
      obtain ⟨l, h1, hs⟩ := hs
      refine ⟨l, h1, ?_⟩
      cases hi' with
      | none => exact sliceV_mono hk' hs
      | some e =>
        simp only [Option.bind_eq_some_iff] at hs ⊢
        obtain ⟨k, h2, hs⟩ := hs
        exact ⟨k, h2, sliceV_mono hk' hs⟩

/-! ### Two operations -/

section
variable {call : CallF} {base : Nat}

/-- What an operation of a region comes to; one that its guard does not want leaves its slot without a value. -/
def evVal (call : CallF) (base : Nat) (o : AOper) (en : Env) (h : Heap) : Option (V × Heap) :=
  match o.guard with
  | none => evOper call base en h o
  | some (g, want) => match gOk (en g) want with
    | some true => evOper call base en h o
    | some false => some (.tup [], h)
    | none => none

/-- Either an operation is run, or it is not wanted. -/
theorem evVal_inv {o : AOper} {en : Env} {h h' : Heap} {v : V} (hs : evVal call base o en h = some (v, h')) :
    ((∀ h2, evVal call base o en h2 = evOper call base en h2 o) ∧ evOper call base en h o = some (v, h')) ∨ ((∀ h2, evVal call base o en h2 = some (.tup [], h2)) ∧ v = .tup [] ∧ h' = h) := by
  rcases hg : o.guard with _ | ⟨g, want⟩
  · have hall : ∀ h2, evVal call base o en h2 = evOper call base en h2 o := fun h2 => by simp only [evVal, hg]
    exact .inl ⟨hall, by rw [← hall]; exact hs⟩
  · cases hen : gOk (en g) want with
    | none => simp [evVal, hg, hen] at hs
    | some t =>
      cases t with
      | true =>
        have hall : ∀ h2, evVal call base o en h2 = evOper call base en h2 o := fun h2 => by simp only [evVal, hg, hen]
        exact .inl ⟨hall, by rw [← hall]; exact hs⟩
      | false =>
        have hall : ∀ h2, evVal call base o en h2 = some (.tup [], h2) := fun h2 => by simp only [evVal, hg, hen]
        rw [hall] at hs
        simp only [Option.some.injEq, Prod.mk.injEq] at hs
        exact .inr ⟨hall, hs.1.symm, hs.2.symm⟩

theorem evOps_cons (o : AOper) (r : List AOper) (en : Env) (h : Heap) : evOps call base (o :: r) en h = (evVal call base o en h).bind fun p => evOps call base r (en.put o.dst p.1) p.2 := by
  rcases hg : o.guard with _ | ⟨g, want⟩
  · simp only [evVal, evOps, hg]
    cases evOper call base en h o <;> rfl
  · simp only [evVal, evOps, hg]
    cases gOk (en g) want with
    | none => rfl
    | some t =>
      cases t with
      | true => simp only; cases evOper call base en h o <;> rfl
      | false => rfl

theorem offOk_congr {o : AOper} {en en' : Env} (he : ∀ t ∈ o.slots, en t = en' t) : offOk en o = offOk en' o := by
  have ho : ∀ t ∈ opdTmps o.op.opds, en t = en' t := fun t ht => he t (by simp [AOper.slots, ht])
  have h1 : ∀ t ∈ o.off, en t = en' t := fun t ht => he t (by simp [AOper.slots, ht])
  have all_on : ∀ {α : Type} (l : List α) (p q : α → Bool), (∀ a ∈ l, p a = q a) → l.all p = l.all q := by
    intro α l p q hpq
    induction l with
    | nil => rfl
    | cons a l ih => rw [List.all_cons, List.all_cons, hpq a (by simp), ih fun b hb => hpq b (by simp [hb])]
  unfold offOk
  refine all_on _ _ _ fun t ht => ?_
  rw [h1 t ht]
  cases blockOf (en' t) with
  | none => rfl
  | some b => exact all_on _ _ _ fun x hx => by rw [get_congr ho hx]

theorem evOp_congr {op : AOp} {en en' : Env} {h : Heap} (ho : ∀ t ∈ opdTmps op.opds, en t = en' t) : evOp call base en h op = evOp call base en' h op := by
  unfold evOp
  split
  · rename_i f args
    have hg : ∀ x ∈ (AOp.call f args).opds, x.get en = x.get en' := fun x hx => get_congr ho hx
    rw [hg f (by simp [AOp.opds]), gets_congr (l := args) (fun t ht => ho t (by simp only [AOp.opds, mem_opdTmps] at ht ⊢; exact List.mem_cons_of_mem _ ht))]
  · exact step_congr ho

theorem evVal_congr {o : AOper} {en en' : Env} {h : Heap} (he : ∀ t ∈ o.slots, en t = en' t) : evVal call base o en h = evVal call base o en' h := by
  have hop : evOper call base en h o = evOper call base en' h o := by
    unfold evOper
    rw [offOk_congr he, evOp_congr fun t ht => he t (by simp [AOper.slots, ht])]
  unfold evVal
  split
  · exact hop
  · rename_i g want e
    rw [he g (by simp [AOper.slots, e]), hop]

theorem evOp_noCall {op : AOp} {en : Env} {h : Heap} (hn : ∀ f a, op ≠ .call f a) : evOp call base en h op = step base en h op := by
  unfold evOp
  split
  · rename_i f a
    exact absurd rfl (hn f a)
  · rfl

theorem evOper_inv {o : AOper} {en : Env} {h : Heap} {r} (hs : evOper call base en h o = some r) : offOk en o = true ∧ evOp call base en h o.op = some r := by
  unfold evOper at hs
  split at hs
  · rename_i ho; exact ⟨ho, hs⟩
  · simp at hs

theorem evOper_of {o : AOper} {en : Env} {h : Heap} {r} (ho : offOk en o = true) (hs : evOp call base en h o.op = some r) : evOper call base en h o = some r := by
  unfold evOper
  rw [if_pos ho]
  exact hs

theorem inert_noCall {op : AOp} (hi : op.inert = true) : ∀ f a, op ≠ .call f a := fun f a e => by rw [e] at hi; simp [AOp.inert] at hi
theorem reads_noCall {op : AOp} (hi : op.reads = true) : ∀ f a, op ≠ .call f a := fun f a e => by rw [e] at hi; simp [AOp.reads, AOp.inert] at hi

theorem evVal_inert {o : AOper} {en : Env} {h h' : Heap} {v : V} (hi : o.op.inert = true) (hs : evVal call base o en h = some (v, h')) : h' = h ∧ ∀ h2, evVal call base o en h2 = some (v, h2) := by
  rcases evVal_inv hs with ⟨hall, e⟩ | ⟨hall, rfl, rfl⟩
  · obtain ⟨ho, e⟩ := evOper_inv e
    rw [evOp_noCall (inert_noCall hi)] at e
    refine ⟨(inert_step hi e).1, fun h2 => ?_⟩
    rw [hall]
    exact evOper_of ho (by rw [evOp_noCall (inert_noCall hi)]; exact (inert_step hi e).2 base h2)
  · exact ⟨rfl, hall⟩

theorem evVal_reads {o : AOper} {en : Env} {h h' : Heap} {v : V} (hi : o.op.reads = true) (hs : evVal call base o en h = some (v, h')) :
    h' = h ∧ ∀ h2, (∀ b o', foot en o.op b → offOk en o = true → h[b]? = some o' → h2[b]? = some o') → evVal call base o en h2 = some (v, h2) := by
  rcases evVal_inv hs with ⟨hall, e⟩ | ⟨hall, rfl, rfl⟩
  · obtain ⟨ho, e⟩ := evOper_inv e
    rw [evOp_noCall (reads_noCall hi)] at e
    have h1 := (reads_step hi e).1
    subst h1
    refine ⟨rfl, fun h2 hk => ?_⟩
    rw [hall]
    exact evOper_of ho (by rw [evOp_noCall (reads_noCall hi)]; exact read_mono hi (fun b o' hf => hk b o' hf ho) e)
  · exact ⟨rfl, fun h2 _ => hall h2⟩

theorem Env.put_other {en : Env} {d : Option Nat} {v : V} {t : Nat} (h : d ≠ some t) : (en.put d v) t = en t := by
  cases d with
  | none => rfl
  | some d =>
    have : t ≠ d := fun e => h (by rw [e])
    simp [Env.put, Env.upd, this]

theorem Env.put_comm {en : Env} {a b : Option Nat} {v u : V} (h : ∀ d, a = some d → b ≠ some d) : (en.put a v).put b u = (en.put b u).put a v := by
  cases a with
  | none => rfl
  | some a =>
    cases b with
    | none => rfl
    | some b =>
      have hne : a ≠ b := fun e => h a rfl (by rw [e])
      funext t
      simp only [Env.put, Env.upd]
      split <;> split <;> simp_all

theorem memO_false {x : Option Nat} {l : List Nat} (h : memO x l = false) : ∀ t ∈ l, x ≠ some t := by
  intro t ht e
  rw [e] at h
  simp [memO, ht] at h

/-- Calls of quiet functions leave what is there. -/
def QuietOk (quiet : FuncId → Nat) (call : CallF) : Prop :=
  (∀ k, quiet k ≠ 0 → ∀ base args h v h', call base k args h = some (v, h') → ∃ ext, h' = h ++ ext) ∧
  (∀ k, quiet k = 2 → ∀ base args h v h', call base k args h = some (v, h') → h' = h ∧ ∀ b2 h2, call b2 k args h2 = some (v, h2))

theorem ext_mono {h ext : Heap} {b : Nat} {o : Obj} (hb : h[b]? = some o) : (h ++ ext)[b]? = some o := by
  rw [List.getElem?_append_left (List.getElem?_eq_some_iff.1 hb).1]
  exact hb

theorem grows_step {quiet : FuncId → Nat} (hq : QuietOk quiet call) {op : AOp} {en : Env} {h h' : Heap} {v : V} (hg : op.grows quiet = true) (hs : evOp call base en h op = some (v, h')) : ∃ ext, h' = h ++ ext := by
  unfold AOp.grows at hg
  split at hg
  · simp only [evOp, step, Option.some.injEq, Prod.mk.injEq] at hs
    exact ⟨_, hs.2.symm⟩
  · simp only [evOp, step] at hs
    split at hs
    · simp only [Option.some.injEq, Prod.mk.injEq] at hs
      exact ⟨_, hs.2.symm⟩
    · simp at hs
  · simp only [evOp, step, Option.bind_eq_some_iff] at hs
    obtain ⟨rs, _, hs⟩ := hs
    split at hs
    · split at hs
      · simp only [Option.some.injEq, Prod.mk.injEq] at hs
        exact ⟨_, hs.2.symm⟩
      · simp at hs
    split at hs
    · simp only [Option.some.injEq, Prod.mk.injEq] at hs
      exact ⟨[], by simp [hs.2]⟩
    · split at hs
      · simp only [Option.some.injEq, Prod.mk.injEq] at hs
        exact ⟨_, hs.2.symm⟩
      · simp at hs
  · simp only [evOp, step] at hs
    split at hs
    · split at hs
      · simp only [Option.some.injEq, Prod.mk.injEq] at hs
        exact ⟨_, hs.2.symm⟩
      · simp at hs
    · simp at hs
  · simp only [evOp, step] at hs
    split at hs
    · simp only [Option.some.injEq, Prod.mk.injEq] at hs
      exact ⟨_, hs.2.symm⟩
    · simp at hs
  · simp only [evOp, step] at hs
    split at hs
    · simp only [Option.some.injEq, Prod.mk.injEq] at hs
      exact ⟨_, hs.2.symm⟩
    · simp at hs
  · rename_i k args
    simp only [evOp, Opd.get, target, List.nil_append, List.append_nil] at hs
    exact hq.1 k (by simpa using hg) _ _ _ _ _ hs
  · simp at hg

theorem evVal_grows {quiet : FuncId → Nat} (hq : QuietOk quiet call) {o : AOper} {en : Env} {h h' : Heap} {v : V} (hg : o.op.grows quiet = true) (hs : evVal call base o en h = some (v, h')) : ∃ ext, h' = h ++ ext := by
  rcases evVal_inv hs with ⟨_, e⟩ | ⟨_, _, rfl⟩
  · exact grows_step hq hg (evOper_inv e).2
  · exact ⟨[], by simp⟩

theorem storeV_other {n : Nat} {h h' : Heap} {a x : V} (hs : storeV base h n a x = some h') : ∀ b, blockOf a ≠ some b → h'[b]? = h[b]? := by
  intro b hb
  unfold storeV at hs
  split at hs
  · split at hs
    · rename_i c off
      have hne : c ≠ b := fun e => hb (by rw [e]; rfl)
      split at hs
      · split at hs
        · injection hs with hs
          rw [← hs, List.getElem?_set_ne hne]
        · simp at hs
      · simp at hs
    · rename_i c e i off
      have hne : c ≠ b := fun e => hb (by rw [e]; rfl)
      split at hs
      · split at hs
        · split at hs
          · split at hs
            · injection hs with hs
              rw [← hs, List.getElem?_set_ne hne]
            · split at hs
              · injection hs with hs
                rw [← hs, List.getElem?_set_ne hne]
              · simp at hs
          · simp at hs
        · simp at hs
      · simp at hs
    · simp at hs
  · simp at hs

theorem evVal_clear {x y : AOper} {en : Env} {h h' : Heap} {u : V} (hc : x.clear y = true) (hs : evVal call base y en h = some (u, h')) :
    ∀ b o', foot en x.op b → offOk en x = true → h[b]? = some o' → h'[b]? = some o' := by
  intro b o' hf hoff hb
  rcases evVal_inv hs with ⟨_, e⟩ | ⟨_, _, rfl⟩
  · have e := (evOper_inv e).2
    unfold AOper.clear at hc
    split at hc
    · rename_i n t z eop
      rw [eop] at e
      simp only [evOp, step, Option.map_eq_some_iff, Prod.mk.injEq, Opd.get] at e
      obtain ⟨h2, e1, _, rfl⟩ := e
      rw [storeV_other e1 b]
      · exact hb
      · intro eb
        obtain ⟨z, hz, ez⟩ := hf
        have := List.all_eq_true.1 hoff t (by simpa using hc)
        rw [eb] at this
        simp only [List.all_eq_true] at this
        have := this z hz
        simp [ez] at this
    · simp at hc
  · exact hb

theorem evVal_inertQ {quiet : FuncId → Nat} (hq : QuietOk quiet call) {o : AOper} {en : Env} {h h' : Heap} {v : V} (hi : o.op.inertQ quiet = true) (hs : evVal call base o en h = some (v, h')) : h' = h ∧ ∀ h2, evVal call base o en h2 = some (v, h2) := by
  by_cases hin : o.op.inert = true
  · exact evVal_inert hin hs
  rcases evVal_inv hs with ⟨hall, e⟩ | ⟨hall, rfl, rfl⟩
  · obtain ⟨ho, e⟩ := evOper_inv e
    unfold AOp.inertQ at hi
    split at hi
    · rename_i k args eop
      rw [eop] at e
      simp only [evOp, Opd.get, target, List.nil_append, List.append_nil] at e
      obtain ⟨q1, q2⟩ := hq.2 k (by simpa using hi) _ _ _ _ _ e
      refine ⟨q1, fun h2 => ?_⟩
      rw [hall]
      refine evOper_of ho ?_
      rw [eop]
      simp only [evOp, Opd.get, target, List.nil_append, List.append_nil]
      exact q2 base h2
    · exact absurd hi hin
  · exact ⟨rfl, hall⟩

theorem swap {quiet : FuncId → Nat} (hq : QuietOk quiet call) {x y : AOper} (hc : commB quiet x y = true) {en : Env} {h : Heap} {r : List AOper} {z : Env × Heap} (hs : evOps call base (x :: y :: r) en h = some z) : evOps call base (y :: x :: r) en h = some z := by
  simp only [commB, Bool.and_eq_true, Bool.not_eq_true', Bool.or_eq_true] at hc
  obtain ⟨⟨⟨hxy, hyx⟩, hd⟩, hm⟩ := hc
  have hd' : ∀ d, x.dst = some d → y.dst ≠ some d := by
    intro d e1 e2
    rw [e1, e2] at hd
    simp at hd
  simp only [evOps_cons, Option.bind_eq_some_iff] at hs ⊢
  obtain ⟨⟨v, h1⟩, e1, ⟨u, h2⟩, e2, e3⟩ := hs
  simp only at e1 e2 e3
  have cx : ∀ (u : V) (h : Heap), evVal call base x (en.put y.dst u) h = evVal call base x en h := fun u h => evVal_congr fun t ht => Env.put_other (memO_false hyx t ht)
  rw [evVal_congr (o := y) (en' := en) fun t ht => Env.put_other (memO_false hxy t ht)] at e2
  rw [Env.put_comm hd'] at e3
  rcases hm with (hm | hm) | ⟨hmx, hmy⟩
  · obtain ⟨rfl, hall⟩ := evVal_inertQ hq hm e1
    exact ⟨(u, h2), e2, (v, h2), by rw [cx]; exact hall h2, e3⟩
  · obtain ⟨rfl, hall⟩ := evVal_inertQ hq hm e2
    exact ⟨(u, h), hall h, (v, h2), by rw [cx]; exact e1, e3⟩
  · obtain ⟨rfl, hall⟩ := evVal_reads hmx e1
    rcases hmy with (hmy | hmy) | hmy
    · obtain ⟨rfl, _⟩ := evVal_reads hmy e2
      exact ⟨(u, h2), e2, (v, h2), by rw [cx]; exact e1, e3⟩
    · obtain ⟨ext, rfl⟩ := evVal_grows hq hmy e2
      exact ⟨(u, _), e2, (v, _), by rw [cx]; exact hall _ (fun b o' _ _ hb => ext_mono hb), e3⟩
    · exact ⟨(u, h2), e2, (v, h2), by rw [cx]; exact hall _ (evVal_clear hmy e2), e3⟩

theorem evOps_append (p r : List AOper) (en : Env) (h : Heap) : evOps call base (p ++ r) en h = (evOps call base p en h).bind fun z => evOps call base r z.1 z.2 := by
  induction p generalizing en h with
  | nil => rfl
  | cons o p ih =>
    rw [List.cons_append, evOps_cons, evOps_cons]
    cases evVal call base o en h with
    | none => rfl
    | some z => exact ih _ _

/-- An operation that may go ahead of all before it comes first. -/
theorem front {quiet : FuncId → Nat} (hq : QuietOk quiet call) {y : AOper} {r : List AOper} : ∀ {p : List AOper} {en : Env} {h : Heap} {z : Env × Heap}, (∀ x ∈ p, commB quiet x y = true) → evOps call base (p ++ y :: r) en h = some z → evOps call base (y :: (p ++ r)) en h = some z
  | [], _, _, _, _, hs => hs
  | x :: p, en, h, z, hc, hs => by
    refine swap hq (hc x (by simp)) ?_
    rw [List.cons_append, evOps_cons, Option.bind_eq_some_iff] at hs
    obtain ⟨q, e1, e2⟩ := hs
    rw [evOps_cons, Option.bind_eq_some_iff]
    exact ⟨q, e1, front hq (fun x hx => hc x (by simp [hx])) e2⟩

/-- What an operation that reads frozen memory alone does, the plain one does. -/
theorem frz_op {op : AOp} {en : Env} {h h' : Heap} {v : V} (hs : evOp call base en h op.frz = some (v, h')) : evOp call base en h op = some (v, h') := by
  cases op
  case load n a =>
    simp only [AOp.frz, evOp, step] at hs ⊢
    split at hs
    · rename_i cs off e
      rw [e]
      simpa only [loadV] using hs
    · simp at hs
  case indexS sz x i =>
    simp only [AOp.frz, evOp, step, Option.bind_eq_some_iff] at hs ⊢
    obtain ⟨k, hk, hs⟩ := hs
    refine ⟨k, hk, ?_⟩
    split at hs
    · rename_i e2 z rs e
      rw [e]
      split at hs
      · rename_i hz
        simp only [Option.map_eq_some_iff, Prod.mk.injEq] at hs
        obtain ⟨cs, h1, rfl, rfl⟩ := hs
        simp [indexV, hz, h1]
      · simp at hs
    · simp at hs
  case sliceArr n sz x lo hi =>
    simp only [AOp.frz, evOp, step] at hs ⊢
    split at hs
    · rename_i e1 e2 e3
      rw [e1, e2, e3]
      exact hs
    · simp at hs
  all_goals exact hs

/-- One operation stands for another. -/
def Stands (a b : AOper) : Prop := a.dst = b.dst ∧ a.guard = b.guard ∧ ∀ (call : CallF) (base : Nat) (en : Env) (h : Heap) (r : V × Heap), evOper call base en h a = some r → evOper call base en h b = some r

theorem Stands.refl (a : AOper) : Stands a a := ⟨rfl, rfl, fun _ _ _ _ _ h => h⟩

theorem offOk_nil {o : AOper} (h : o.off = []) (en : Env) : offOk en o = true := by simp [offOk, h]

theorem Stands.frz {a : AOper} (h : a.off = []) : Stands a.frz a := by
  refine ⟨rfl, rfl, fun call base en hh r hs => ?_⟩
  exact evOper_of (offOk_nil h en) (frz_op (evOper_inv hs).2)

theorem Stands.keep {a : AOper} (av : List Nat) (h : a.off = []) : Stands (a.keep av) a := by
  unfold AOper.keep
  split
  · refine ⟨rfl, rfl, fun call base en hh r hs => ?_⟩
    exact evOper_of (offOk_nil h en) (evOper_inv hs).2
  · exact Stands.refl a

theorem Stands.val {a b : AOper} (hst : Stands a b) {en : Env} {h : Heap} {r : V × Heap} (hs : evVal call base a en h = some r) : evVal call base b en h = some r := by
  obtain ⟨_, hg, hev⟩ := hst
  rcases hga : a.guard with _ | ⟨g, want⟩
  · have hgb := hg ▸ hga
    simp only [evVal, hga] at hs
    simp only [evVal, hgb]
    exact hev _ _ _ _ _ hs
  · have hgb := hg ▸ hga
    simp only [evVal, hga] at hs
    simp only [evVal, hgb]
    cases hen : gOk (en g) want with
    | none => rw [hen] at hs; simp at hs
    | some t =>
      rw [hen] at hs
      cases t with
      | true => exact hev _ _ _ _ _ hs
      | false => exact hs
end
end Go.Am
