/- The abstract machine and what is proved in it, part 2. -/
import Derived.Test.YtbeaelflokcdjaaGreatDoorAm1
import Derived.Laws.CopyRow
import Derived.Laws.AppendOwn
import Derived.Below
set_option linter.unusedVariables false
set_option linter.unusedSimpArgs false
namespace Go.Am
section
theorem gets_congr {en en' : Env} : ∀ {l : List Opd}, (∀ t ∈ opdTmps l, en t = en' t) → zh en l = zh en' l
  | [], _ => rfl
  | .tmp t :: r, h => by
    simp only [opdTmps, List.mem_cons, forall_eq_or_imp] at h
    simp only [zh, Opd.get, h.1, gets_congr h.2]
  | .val _ :: r, h => by
    simp only [opdTmps] at h
    simp only [zh, Opd.get, gets_congr h]
  | .qtmp _ t :: r, h => by
    simp only [opdTmps, List.mem_cons, forall_eq_or_imp] at h
    simp only [zh, Opd.get, h.1, gets_congr h.2]
theorem opdTmps_append : ∀ (a b : List Opd), opdTmps (a ++ b) = opdTmps a ++ opdTmps b
  | [], b => rfl
  | .tmp t :: r, b => by simp [opdTmps, opdTmps_append r b]
  | .val _ :: r, b => by simp [opdTmps, opdTmps_append r b]
  | .qtmp _ t :: r, b => by simp [opdTmps, opdTmps_append r b]
theorem mem_opdTmps {t : Nat} : ∀ {l : List Opd}, t ∈ opdTmps l ↔ Opd.tmp t ∈ l ∨ ∃ qs, Opd.qtmp qs t ∈ l
  | [] => by simp [opdTmps]
  | .tmp u :: r => by simp [opdTmps, mem_opdTmps (l := r), or_assoc]
  | .val _ :: r => by simp [opdTmps, mem_opdTmps (l := r)]
  | .qtmp q u :: r => by
    simp only [opdTmps, List.mem_cons, mem_opdTmps (l := r), reduceCtorEq, false_or, Opd.qtmp.injEq]
    constructor
    · rintro (rfl | h | ⟨qs, h⟩)
      · exact .inr ⟨q, .inl ⟨rfl, rfl⟩⟩
      · exact .inl h
      · exact .inr ⟨qs, .inr h⟩
    · rintro (h | ⟨qs, ⟨rfl, rfl⟩ | h⟩)
      · exact .inr (.inl h)
      · exact .inl rfl
      · exact .inr (.inr ⟨qs, h⟩)
theorem opdTmps_sub {l m : List Opd} (h : ∀ x ∈ l, x ∈ m) : ∀ t ∈ opdTmps l, t ∈ opdTmps m := fun t ht => by
  rw [mem_opdTmps] at ht ⊢
  rcases ht with ht | ⟨qs, ht⟩
  · exact .inl (h _ ht)
  · exact .inr ⟨qs, h _ ht⟩
theorem get_congr {en en' : Env} {l : List Opd} (h : ∀ t ∈ opdTmps l, en t = en' t) {x : Opd} (hx : x ∈ l) : x.get en = x.get en' := by
  cases x with
  | val v => rfl
  | tmp t => exact h t (mem_opdTmps.2 (.inl hx))
  | qtmp qs t => simp only [Opd.get, h t (mem_opdTmps.2 (.inr ⟨qs, hx⟩))]
theorem parts_congr {en en' : Env} : ∀ {l : List (Nat × Nat × Opd)}, (∀ x ∈ l.map (·.2.2), x.get en = x.get en') → getParts en l = getParts en' l
  | [], _ => rfl
  | (a, b, x) :: r, h => by
    simp only [List.map_cons, List.mem_cons, forall_eq_or_imp] at h
    simp only [getParts, h.1, parts_congr h.2]
theorem parts2_congr {en en' : Env} : ∀ {l : List (Nat × Opd)}, (∀ x ∈ l.map (·.2), x.get en = x.get en') → getParts2 en l = getParts2 en' l
  | [], _ => rfl
  | (a, x) :: r, h => by
    simp only [List.map_cons, List.mem_cons, forall_eq_or_imp] at h
    simp only [getParts2, h.1, parts2_congr h.2]
theorem bound_congr {en en' : Env} {d : Nat} {x : Option Opd} (h : ∀ y ∈ oO x, y.get en = y.get en') : zf en d x = zf en' d x := by
  cases x with
  | none => rfl
  | some x => simp only [zf, h x (by simp [oO])]
theorem step_congr {base : Nat} {en en' : Env} {h : Heap} {op : AOp} (he : ∀ t ∈ opdTmps op.opds, en t = en' t) : step base en h op = step base en' h op := by
  have hg : ∀ x ∈ op.opds, x.get en = x.get en' := fun x hx => get_congr he hx
  have hl : ∀ l : List Opd, (∀ x ∈ l, x ∈ op.opds) → zh en l = zh en' l := fun l hsub => gets_congr fun t ht => he t (opdTmps_sub hsub t ht)
  cases op
  case build zs ps => simp only [step, parts_congr (by simpa [AOp.opds] using hg)]
  case bslice w t sz zs n ps => simp only [step, parts2_congr (by simpa [AOp.opds] using hg)]
  case makeFunc f a c => simp only [step, hl a (by simp [AOp.opds]; intro x hx; exact .inl hx), hl c (by simp [AOp.opds]; intro x hx; exact .inr hx)]
  case mnmx m xs => simp only [step, hl xs (by simp [AOp.opds])]
  case call f xs => simp only [step]
  case callK f xs ts => simp only [step]
  case sliceStr x lo hi =>
    simp only [AOp.opds, List.mem_cons, List.mem_append] at hg
    simp only [step, hg x (.inl rfl), bound_congr (x := lo) (fun y hy => hg y (.inr (.inl hy)))]
    split
    · simp only [bound_congr (x := hi) (fun y hy => hg y (.inr (.inr hy)))]
    · rfl
  case sliceArr n sz x lo hi =>
    simp only [AOp.opds, List.mem_cons, List.mem_append] at hg
    simp only [step, hg x (.inl rfl), bound_congr (x := lo) (fun y hy => hg y (.inr (.inl hy))), bound_congr (x := hi) (fun y hy => hg y (.inr (.inr hy)))]
  case sliceArrF n sz x lo hi =>
    simp only [AOp.opds, List.mem_cons, List.mem_append] at hg
    simp only [step, hg x (.inl rfl), bound_congr (x := lo) (fun y hy => hg y (.inr (.inl hy))), bound_congr (x := hi) (fun y hy => hg y (.inr (.inr hy)))]
  case slice sz x lo hi mx =>
    simp only [AOp.opds, List.mem_cons, List.mem_append] at hg
    simp only [step, hg x (.inl rfl), bound_congr (x := lo) (fun y hy => hg y (.inr (.inl (.inl hy))))]
    cases hi <;> cases mx <;> simp [oO] at hg ⊢ <;> simp [hg]
  all_goals
    simp [AOp.opds] at hg
    simp only [step]
    try simp only [hg]
theorem inert_step {base : Nat} {en : Env} {h h' : Heap} {op : AOp} {v : V} (hi : op.inert = true) (hs : step base en h op = some (v, h')) :
    h' = h ∧ ∀ b2 h2, step b2 en h2 op = some (v, h2) := by
  have fin : ∀ {x : Option V}, x.map (fun v => (v, h)) = some (v, h') → h' = h ∧ ∀ h2 : Heap, x.map (fun v => (v, h2)) = some (v, h2) := by
    intro x hx
    simp only [Option.map_eq_some_iff, Prod.mk.injEq] at hx
    obtain ⟨a, rfl, rfl, rfl⟩ := hx
    exact ⟨rfl, fun _ => rfl⟩
  cases op <;> simp [AOp.inert] at hi <;> simp only [step] at hs ⊢
  all_goals try exact ⟨(fin hs).1, fun _ h2 => (fin hs).2 h2⟩
  all_goals try (simp only [Option.some.injEq, Prod.mk.injEq] at hs; obtain ⟨rfl, rfl⟩ := hs; exact ⟨rfl, fun _ _ => rfl⟩)
  all_goals try (exfalso; simp at hs; done)
  all_goals try (simp only [Option.bind_eq_some_iff] at hs; obtain ⟨a, ha, hs⟩ := hs; simp only [ha, Option.bind_some])
  all_goals try exact ⟨(fin hs).1, fun _ h2 => (fin hs).2 h2⟩
  all_goals try (split at hs <;> first | (exfalso; simp at hs; done) | (simp only [Option.some.injEq, Prod.mk.injEq] at hs; obtain ⟨rfl, rfl⟩ := hs; exact ⟨rfl, fun _ _ => rfl⟩) | exact ⟨(fin hs).1, fun _ h2 => (fin hs).2 h2⟩)
  all_goals try (simp only [Option.map_eq_some_iff, Prod.mk.injEq] at hs; obtain ⟨a, ha, rfl, rfl⟩ := hs; exact ⟨rfl, fun _ _ => by rw [ha]; rfl⟩)
  case eqAgg =>
    split at hs
    · simp only [Option.map_eq_some_iff, Prod.mk.injEq] at hs
      obtain ⟨a, ha, rfl, rfl⟩ := hs
      exact ⟨rfl, fun _ _ => by rw [ha]; rfl⟩
    · simp at hs
  case sliceStr =>
    split at hs
    · simp only [Option.bind_eq_some_iff] at hs
      obtain ⟨a, ha, b, hb, hs⟩ := hs
      simp only [ha, hb, Option.bind_some]
      split at hs
      · rename_i hc
        simp only [Option.some.injEq, Prod.mk.injEq] at hs; obtain ⟨rfl, rfl⟩ := hs; exact ⟨rfl, fun _ _ => by rw [if_pos hc]⟩
      · simp at hs
    · simp at hs
  case indexA =>
    split at hs
    · rename_i hc
      simp only [Option.map_eq_some_iff, Prod.mk.injEq] at hs; obtain ⟨a, ha, rfl, rfl⟩ := hs; exact ⟨rfl, fun _ _ => by rw [if_pos hc, ha]; rfl⟩
    · simp at hs
  all_goals
    split at hs
    all_goals try (exfalso; simp at hs; done)
    all_goals try exact ⟨(fin hs).1, fun _ h2 => (fin hs).2 h2⟩
    all_goals try (simp only [Option.map_eq_some_iff, Prod.mk.injEq] at hs; obtain ⟨a, ha, rfl, rfl⟩ := hs; exact ⟨rfl, fun _ _ => by rw [ha]; rfl⟩)
    all_goals try (simp only [Option.some.injEq, Prod.mk.injEq] at hs; obtain ⟨rfl, rfl⟩ := hs; exact ⟨rfl, fun _ _ => by simp_all⟩)
  all_goals
    split at hs
    all_goals try (exfalso; simp at hs; done)
    all_goals try exact ⟨(fin hs).1, fun _ h2 => (fin hs).2 h2⟩
    all_goals try (simp only [Option.map_eq_some_iff, Prod.mk.injEq] at hs; obtain ⟨a, ha, rfl, rfl⟩ := hs; exact ⟨rfl, fun _ _ => by simp_all⟩)
    all_goals try (simp only [Option.some.injEq, Prod.mk.injEq] at hs; obtain ⟨rfl, rfl⟩ := hs; exact ⟨rfl, fun _ _ => by simp_all⟩)
theorem reads_step {base : Nat} {en : Env} {h h' : Heap} {op : AOp} {v : V} (hi : op.reads = true) (hs : step base en h op = some (v, h')) : h' = h ∧ ∀ b2, step b2 en h op = some (v, h) := by
  by_cases hin : op.inert = true
  · exact ⟨(inert_step hin hs).1, fun b2 => (inert_step hin hs).2 b2 h⟩
  cases op <;> simp [AOp.reads, AOp.inert] at hi hin
  case load n a =>
    simp only [step] at hs ⊢
    simp only [Option.map_eq_some_iff, Prod.mk.injEq] at hs; obtain ⟨a, ha, rfl, rfl⟩ := hs; exact ⟨rfl, fun _ => by rw [ha]; rfl⟩
  case strOf x =>
    simp only [step] at hs ⊢
    simp only [Option.bind_eq_some_iff] at hs; obtain ⟨a, ha, hs⟩ := hs; simp only [ha, Option.bind_some]
    simp only [Option.map_eq_some_iff, Prod.mk.injEq] at hs; obtain ⟨a, ha, rfl, rfl⟩ := hs; exact ⟨rfl, fun _ => by rw [ha]; rfl⟩
  case indexS sz x i =>
    simp only [step] at hs ⊢
    simp only [Option.bind_eq_some_iff] at hs; obtain ⟨a, ha, hs⟩ := hs; simp only [ha, Option.bind_some]
    simp only [Option.map_eq_some_iff, Prod.mk.injEq] at hs; obtain ⟨a, ha, rfl, rfl⟩ := hs; exact ⟨rfl, fun _ => by rw [ha]; rfl⟩
  case uncast x =>
    simp only [step, Option.map_eq_some_iff, Prod.mk.injEq] at hs ⊢; obtain ⟨a, ha, rfl, rfl⟩ := hs; exact ⟨rfl, fun _ => ⟨_, ha, rfl, trivial⟩⟩
  case cast u s x =>
    simp only [step, Option.map_eq_some_iff, Prod.mk.injEq] at hs ⊢; obtain ⟨a, ha, rfl, rfl⟩ := hs; exact ⟨rfl, fun _ => ⟨_, ha, rfl, trivial⟩⟩
  case eqPtr neg x y =>
    simp only [step, Option.map_eq_some_iff, Prod.mk.injEq] at hs ⊢; obtain ⟨a, ha, rfl, rfl⟩ := hs; exact ⟨rfl, fun _ => ⟨_, ha, rfl, trivial⟩⟩
  case sliceData x =>
    simp only [step, Option.map_eq_some_iff, Prod.mk.injEq] at hs ⊢; obtain ⟨a, ha, rfl, rfl⟩ := hs; exact ⟨rfl, fun _ => ⟨_, ha, rfl, trivial⟩⟩
  case lookup kd z ok m k =>
    simp only [step, Option.map_eq_some_iff, Prod.mk.injEq] at hs ⊢; obtain ⟨a, ha, rfl, rfl⟩ := hs; exact ⟨rfl, fun _ => ⟨_, ha, rfl, trivial⟩⟩
  case lenM m =>
    simp only [step, Option.map_eq_some_iff, Prod.mk.injEq] at hs ⊢; obtain ⟨a, ha, rfl, rfl⟩ := hs; exact ⟨rfl, fun _ => ⟨_, ha, rfl, trivial⟩⟩
  case sliceArr n sz x lo hi =>
    have he : h' = h := by
      simp only [step] at hs
      split at hs
      · split at hs
        · simp only [Option.some.injEq, Prod.mk.injEq] at hs; exact hs.2.symm
        · simp at hs
      · split at hs
        · split at hs
          · simp only [Option.some.injEq, Prod.mk.injEq] at hs; exact hs.2.symm
          · simp at hs
        · simp at hs
      · simp at hs
    subst he
    exact ⟨rfl, fun _ => by simpa only [step] using hs⟩
  case slice sz x lo hi' mx =>
    cases mx with
    | some m => simp at hi
    | none =>
      have key : ∀ {l : Nat} {e : Option Nat} {h' : Heap}, zg h sz (x.get en) l e none = some (v, h') → h' = h := by
        intro l e h' hs
        unfold zg at hs
        split at hs
        · split at hs
          · simp only [Option.some.injEq, Prod.mk.injEq] at hs; exact hs.2.symm
          · simp at hs
        · split at hs
          · split at hs
            · split at hs
              · simp only [Option.some.injEq, Prod.mk.injEq] at hs; exact hs.2.symm
              · simp at hs
            · simp at hs
          · simp at hs
        · split at hs
          · simp only [Option.some.injEq, Prod.mk.injEq] at hs; exact hs.2.symm
          · simp at hs
        · simp at hs
      have he : h' = h := by
        simp only [step, Option.bind_eq_some_iff] at hs
        obtain ⟨l, _, hs⟩ := hs
        cases hi' with
        | none => exact key hs
        | some e =>
          simp only [Option.bind_eq_some_iff] at hs
          obtain ⟨_, _, hs⟩ := hs
          exact key hs
      subst he
      exact ⟨rfl, fun b2 => by simpa only [step] using hs⟩
def foot (en : Env) (op : AOp) (b : Nat) : Prop := ∃ x ∈ op.opds, blockOf (x.get en) = some b
theorem rowAt_mono {h h' : Heap} {b e : Nat} {r} (hk : ∀ o, h[b]? = some o → h'[b]? = some o) (hr : rowAt h b e = some r) : rowAt h' b e = some r := by
  unfold rowAt at hr ⊢
  cases hb : h[b]? with
  | none => rw [hb] at hr; simp at hr
  | some o => rw [hk o hb]; rw [hb] at hr; exact hr
theorem boxAt_mono {h h' : Heap} {b : Nat} {r} (hk : ∀ o, h[b]? = some o → h'[b]? = some o) (hr : boxAt h b = some r) : boxAt h' b = some r := by
  unfold boxAt at hr ⊢
  cases hb : h[b]? with
  | none => rw [hb] at hr; simp at hr
  | some o => rw [hk o hb]; rw [hb] at hr; exact hr
theorem elems_mono {h h' : Heap} {sz : Nat} {x : V} {r} (hk : ∀ b o, blockOf x = some b → h[b]? = some o → h'[b]? = some o) (hr : elems sz h x = some r) : elems sz h' x = some r := by
  unfold elems at hr ⊢
  split at hr
  · exact hr
  · rename_i b e off len
    cases hra : rowAt h b e with
    | none => rw [hra] at hr; simp at hr
    | some p => rw [rowAt_mono (fun o => hk b o rfl) hra]; rw [hra] at hr; exact hr
  · exact hr
  · simp at hr
theorem loadV_mono {h h' : Heap} {n : Option Nat} {x : V} {r} (hk : ∀ b o, blockOf x = some b → h[b]? = some o → h'[b]? = some o) (hr : zl h n x = some r) : zl h' n x = some r := by
  unfold zl at hr ⊢
  split at hr
  · rename_i b off
    cases hb : h[b]? with
    | none => rw [hb] at hr; simp at hr
    | some o => simp only [hk b o rfl hb]; rw [hb] at hr; exact hr
  · rename_i b e i off
    cases hra : rowAt h b e with
    | none => rw [hra] at hr; simp at hr
    | some p => simp only [rowAt_mono (fun o => hk b o rfl) hra]; rw [hra] at hr; exact hr
  · exact hr
  · simp at hr
theorem indexV_mono {h h' : Heap} {s k : Nat} {x : V} {r} (hk : ∀ b o, blockOf x = some b → h[b]? = some o → h'[b]? = some o) (hr : zi h s k x = some r) : zi h' s k x = some r := by
  unfold zi at hr ⊢
  split at hr
  · exact hr
  · rename_i b e off len
    cases hra : rowAt h b e with
    | none => rw [hra] at hr; simp at hr
    | some p => simp only [rowAt_mono (fun o => hk b o rfl) hra]; rw [hra] at hr; exact hr
  · simp at hr
theorem sliceV_mono {h h' : Heap} {sz lo : Nat} {hi : Option Nat} {x : V} {r} (hk : ∀ b o, blockOf x = some b → h[b]? = some o → h'[b]? = some o) (hr : zg h sz x lo hi none = some (r, h)) : zg h' sz x lo hi none = some (r, h') := by
  unfold zg at hr ⊢
  split at hr
  · split at hr
    · rename_i hc
      rw [if_pos hc]
      simp only [Option.some.injEq, Prod.mk.injEq] at hr ⊢
      exact ⟨hr.1, trivial⟩
    · simp at hr
  · rename_i b ep off len
    split at hr
    · rename_i hc
      rw [if_pos hc]
      cases hb : h[b]? with
      | none => rw [hb] at hr; simp at hr
      | some o =>
        rw [hk b o rfl hb]
        rw [hb] at hr
        cases o with
        | row t z e' rs =>
          simp only at hr ⊢
          split at hr
          · rename_i hz
            rw [if_pos hz]
            simp only [Option.some.injEq, Prod.mk.injEq] at hr ⊢
            exact ⟨hr.1, trivial⟩
          · simp at hr
        | _ => simp at hr
    · simp at hr
  · split at hr
    · rename_i hc
      rw [if_pos hc]
      simp only [Option.some.injEq, Prod.mk.injEq] at hr ⊢
      exact ⟨hr.1, trivial⟩
    · simp at hr
  · simp at hr
theorem samePtr_mono {h h' : Heap} {x y : V} {r} (hx : ∀ b o, blockOf x = some b → h[b]? = some o → h'[b]? = some o) (hy : ∀ b o, blockOf y = some b → h[b]? = some o → h'[b]? = some o) (hr : samePtr h x y = some r) : samePtr h' x y = some r := by
  unfold samePtr at hr ⊢
  split at hr
  · exact hr
  · exact hr
  · exact hr
  · rename_i b o c p
    simp only [Option.bind_eq_some_iff, Option.map_eq_some_iff] at hr ⊢
    obtain ⟨u, h1, v, h2, h3⟩ := hr
    exact ⟨u, boxAt_mono (fun o => hx b o rfl) h1, v, boxAt_mono (fun o => hy c o rfl) h2, h3⟩
  · simp at hr
theorem read_mono {base : Nat} {en : Env} {h h' : Heap} {op : AOp} {v : V} (hi : op.reads = true) (hk : ∀ b o, foot en op b → h[b]? = some o → h'[b]? = some o) (hs : step base en h op = some (v, h)) :
    step base en h' op = some (v, h') := by
  by_cases hin : op.inert = true
  · exact (inert_step hin hs).2 base h'
  cases op <;> simp [AOp.reads, AOp.inert] at hi hin
  case load n a =>
    simp only [step, Option.map_eq_some_iff, Prod.mk.injEq] at hs ⊢
    obtain ⟨r, h1, h2, _⟩ := hs
    exact ⟨r, loadV_mono (fun b o e => hk b o ⟨a, by simp [AOp.opds], e⟩) h1, h2, trivial⟩
  case strOf x =>
    simp only [step, Option.bind_eq_some_iff, Option.map_eq_some_iff, Prod.mk.injEq] at hs ⊢
    obtain ⟨r, h1, l, h2, h3, _⟩ := hs
    exact ⟨r, elems_mono (fun b o e => hk b o ⟨x, by simp [AOp.opds], e⟩) h1, l, h2, h3, trivial⟩
  case indexS sz x i =>
    simp only [step, Option.bind_eq_some_iff, Option.map_eq_some_iff, Prod.mk.injEq] at hs ⊢
    obtain ⟨k, h0, r, h1, h2, _⟩ := hs
    exact ⟨k, h0, r, indexV_mono (fun b o e => hk b o ⟨x, by simp [AOp.opds], e⟩) h1, h2, trivial⟩
  case uncast x =>
    simp only [step, Option.map_eq_some_iff, Prod.mk.injEq] at hs ⊢
    obtain ⟨r, h1, h2, _⟩ := hs
    refine ⟨r, ?_, h2, trivial⟩
    have hk' : ∀ b o, blockOf (x.get en) = some b → h[b]? = some o → h'[b]? = some o := fun b o e => hk b o ⟨x, by simp [AOp.opds], e⟩
    clear h2
    generalize x.get en = y at h1 hk'
    unfold uncastV at h1 ⊢
    split at h1
    · exact h1
    · rename_i b off
      simp only [Option.bind_eq_some_iff] at h1 ⊢
      obtain ⟨p, h2, h3⟩ := h1
      exact ⟨p, boxAt_mono (fun o => hk' b o rfl) h2, h3⟩
    · simp at h1
  case cast u s x =>
    simp only [step, Option.map_eq_some_iff, Prod.mk.injEq] at hs ⊢
    obtain ⟨r, h1, h2, _⟩ := hs
    refine ⟨r, ?_, h2, trivial⟩
    have hk' : ∀ b o, blockOf (x.get en) = some b → h[b]? = some o → h'[b]? = some o := fun b o e => hk b o ⟨x, by simp [AOp.opds], e⟩
    clear h2
    generalize x.get en = y at h1 hk'
    unfold castV at h1 ⊢
    split at h1
    · exact h1
    · rename_i b
      simp only [Option.bind_eq_some_iff] at h1 ⊢
      obtain ⟨p, h2, h3⟩ := h1
      exact ⟨p, boxAt_mono (fun o => hk' b o rfl) h2, h3⟩
    · simp at h1
  case eqPtr neg x y =>
    simp only [step, Option.map_eq_some_iff, Prod.mk.injEq] at hs ⊢
    obtain ⟨r, h1, h2, _⟩ := hs
    exact ⟨r, samePtr_mono (fun b o e => hk b o ⟨x, by simp [AOp.opds], e⟩) (fun b o e => hk b o ⟨y, by simp [AOp.opds], e⟩) h1, h2, trivial⟩
  case sliceData x =>
    simp only [step, Option.map_eq_some_iff, Prod.mk.injEq] at hs ⊢
    obtain ⟨r, h1, h2, _⟩ := hs
    refine ⟨r, ?_, h2, trivial⟩
    have hk' : ∀ b o, blockOf (x.get en) = some b → h[b]? = some o → h'[b]? = some o := fun b o e => hk b o ⟨x, by simp [AOp.opds], e⟩
    clear h2
    generalize x.get en = y at h1 hk'
    unfold sliceDataV at h1 ⊢
    split at h1
    · exact h1
    · rename_i b e off len
      cases hra : rowAt h b e with
      | none => rw [hra] at h1; simp at h1
      | some p => simp only [rowAt_mono (fun o => hk' b o rfl) hra]; rw [hra] at h1; exact h1
    · simp at h1
  case lookup kd z ok m k =>
    simp only [step, Option.map_eq_some_iff, Prod.mk.injEq] at hs ⊢
    obtain ⟨r, h1, h2, _⟩ := hs
    refine ⟨r, ?_, h2, trivial⟩
    have hk' : ∀ b o, blockOf (m.get en) = some b → h[b]? = some o → h'[b]? = some o := fun b o e => hk b o ⟨m, by simp [AOp.opds], e⟩
    clear h2
    generalize m.get en = y at h1 hk'
    unfold lookupV at h1 ⊢
    simp only [Option.bind_eq_some_iff] at h1 ⊢
    obtain ⟨key, hkey, h1⟩ := h1
    refine ⟨key, hkey, ?_⟩
    split at h1
    · exact h1
    · rename_i b
      cases hb : h[b]? with
      | none => rw [hb] at h1; simp at h1
      | some o => simp only [hk' b o rfl hb]; rw [hb] at h1; exact h1
    · simp at h1
  case lenM m =>
    simp only [step, Option.map_eq_some_iff, Prod.mk.injEq] at hs ⊢
    obtain ⟨r, h1, h2, _⟩ := hs
    refine ⟨r, ?_, h2, trivial⟩
    have hk' : ∀ b o, blockOf (m.get en) = some b → h[b]? = some o → h'[b]? = some o := fun b o e => hk b o ⟨m, by simp [AOp.opds], e⟩
    clear h2
    generalize m.get en = y at h1 hk'
    unfold lenMV at h1 ⊢
    split at h1
    · exact h1
    · rename_i b
      cases hb : h[b]? with
      | none => rw [hb] at h1; simp at h1
      | some o => simp only [hk' b o rfl hb]; rw [hb] at h1; exact h1
    · simp at h1
  case sliceArr n sz x lo hi =>
    have hk' : ∀ b o, blockOf (x.get en) = some b → h[b]? = some o → h'[b]? = some o := fun b o e => hk b o ⟨x, by simp [AOp.opds], e⟩
    simp only [step] at hs ⊢
    generalize x.get en = y at hs hk'
    split at hs
    · split at hs
      · rename_i hc
        simp only [Option.some.injEq, Prod.mk.injEq] at hs
        obtain ⟨rfl, _⟩ := hs
        simp [*]
      · simp at hs
    · rename_i b ep l e e1 e2
      split at hs
      · rename_i z rs hra
        split at hs
        · rename_i hc
          simp only [Option.some.injEq, Prod.mk.injEq] at hs
          obtain ⟨rfl, _⟩ := hs
          simp only [rowAt_mono (fun o => hk' b o rfl) hra, if_pos hc]
        · simp at hs
      · simp at hs
    · simp at hs
  case slice sz x lo hi' mx =>
    cases mx with
    | some m => simp at hi
    | none =>
      have hk' : ∀ b o, blockOf (x.get en) = some b → h[b]? = some o → h'[b]? = some o := fun b o e => hk b o ⟨x, by simp [AOp.opds], e⟩
      simp only [step, Option.bind_eq_some_iff] at hs ⊢
      obtain ⟨l, h1, hs⟩ := hs
      refine ⟨l, h1, ?_⟩
      cases hi' with
      | none => exact sliceV_mono hk' hs
      | some e =>
        simp only [Option.bind_eq_some_iff] at hs ⊢
        obtain ⟨k, h2, hs⟩ := hs
        exact ⟨k, h2, sliceV_mono hk' hs⟩
section
variable {call : CallF} {base : Nat}
def evVal (call : CallF) (base : Nat) (o : AOper) (en : Env) (h : Heap) : Option (V × Heap) :=
  match o.guard with
  | none => evOper call base en h o
  | some (g, want) => match gOk (en g) want with
    | some true => evOper call base en h o
    | some false => some (.tup [], h)
    | none => none
theorem evVal_inv {o : AOper} {en : Env} {h h' : Heap} {v : V} (hs : evVal call base o en h = some (v, h')) :
    ((∀ h2, evVal call base o en h2 = evOper call base en h2 o) ∧ evOper call base en h o = some (v, h')) ∨ ((∀ h2, evVal call base o en h2 = some (.tup [], h2)) ∧ v = .tup [] ∧ h' = h) := by
  rcases hg : o.guard with _ | ⟨g, want⟩
  · have hall : ∀ h2, evVal call base o en h2 = evOper call base en h2 o := fun h2 => by simp only [evVal, hg]
    exact .inl ⟨hall, by rw [← hall]; exact hs⟩
  · cases hen : gOk (en g) want with
    | none => simp [evVal, hg, hen] at hs
    | some t =>
      cases t with
      | true =>
        have hall : ∀ h2, evVal call base o en h2 = evOper call base en h2 o := fun h2 => by simp only [evVal, hg, hen]
        exact .inl ⟨hall, by rw [← hall]; exact hs⟩
      | false =>
        have hall : ∀ h2, evVal call base o en h2 = some (.tup [], h2) := fun h2 => by simp only [evVal, hg, hen]
        rw [hall] at hs
        simp only [Option.some.injEq, Prod.mk.injEq] at hs
        exact .inr ⟨hall, hs.1.symm, hs.2.symm⟩
theorem evOps_cons (o : AOper) (r : List AOper) (en : Env) (h : Heap) : evOps call base (o :: r) en h = (evVal call base o en h).bind fun p => evOps call base r (en.put o.dst p.1) p.2 := by
  rcases hg : o.guard with _ | ⟨g, want⟩
  · simp only [evVal, evOps, hg]
    cases evOper call base en h o <;> rfl
  · simp only [evVal, evOps, hg]
    cases gOk (en g) want with
    | none => rfl
    | some t =>
      cases t with
      | true => simp only; cases evOper call base en h o <;> rfl
      | false => rfl
theorem offOk_congr {o : AOper} {en en' : Env} (he : ∀ t ∈ o.slots, en t = en' t) : offOk en o = offOk en' o := by
  have ho : ∀ t ∈ opdTmps o.op.opds, en t = en' t := fun t ht => he t (by simp [AOper.slots, ht])
  have h1 : ∀ t ∈ o.off, en t = en' t := fun t ht => he t (by simp [AOper.slots, ht])
  have all_on : ∀ {α : Type} (l : List α) (p q : α → Bool), (∀ a ∈ l, p a = q a) → l.all p = l.all q := by
    intro α l p q hpq
    induction l with
    | nil => rfl
    | cons a l ih => rw [List.all_cons, List.all_cons, hpq a (by simp), ih fun b hb => hpq b (by simp [hb])]
  unfold offOk
  refine all_on _ _ _ fun t ht => ?_
  rw [h1 t ht]
  cases blockOf (en' t) with
  | none => rfl
  | some b => exact all_on _ _ _ fun x hx => by rw [get_congr ho hx]
theorem evOp_congr {op : AOp} {en en' : Env} {h : Heap} (ho : ∀ t ∈ opdTmps op.opds, en t = en' t) : evOp call base en h op = evOp call base en' h op := by
  unfold evOp
  split
  · rename_i f args
    have hg : ∀ x ∈ (AOp.call f args).opds, x.get en = x.get en' := fun x hx => get_congr ho hx
    rw [hg f (by simp [AOp.opds]), gets_congr (l := args) (fun t ht => ho t (opdTmps_sub (fun x hx => List.mem_cons_of_mem _ hx) t ht))]
  · rename_i f args ts
    have hg : ∀ x ∈ (AOp.callK f args ts).opds, x.get en = x.get en' := fun x hx => get_congr ho hx
    rw [hg f (by simp [AOp.opds]), gets_congr (l := args) (fun t ht => ho t (opdTmps_sub (fun x hx => by simp [AOp.opds, hx]) t ht))]
    have hk : ∀ h', keepB en h h' ts = keepB en' h h' ts := by
      intro h'
      have all_on : ∀ (l : List Nat) (p q : Nat → Bool), (∀ a ∈ l, p a = q a) → l.all p = l.all q := by
        intro l p q hpq
        induction l with
        | nil => rfl
        | cons a l ih => rw [List.all_cons, List.all_cons, hpq a (by simp), ih fun b hb => hpq b (by simp [hb])]
      unfold keepB
      refine all_on _ _ _ fun t ht => ?_
      rw [ho t (mem_opdTmps.2 (.inl (by simp [AOp.opds, ht])))]
    simp only [hk]
  · exact step_congr ho
theorem evVal_congr {o : AOper} {en en' : Env} {h : Heap} (he : ∀ t ∈ o.slots, en t = en' t) : evVal call base o en h = evVal call base o en' h := by
  have hop : evOper call base en h o = evOper call base en' h o := by
    unfold evOper
    rw [offOk_congr he, evOp_congr fun t ht => he t (by simp [AOper.slots, ht])]
  unfold evVal
  split
  · exact hop
  · rename_i g want e
    rw [he g (by simp [AOper.slots, e]), hop]
theorem evOp_noCall {op : AOp} {en : Env} {h : Heap} (hn : (∀ f a, op ≠ .call f a) ∧ ∀ f a t, op ≠ .callK f a t) : evOp call base en h op = step base en h op := by
  unfold evOp
  split
  · rename_i f a
    exact absurd rfl (hn.1 f a)
  · rename_i f a t
    exact absurd rfl (hn.2 f a t)
  · rfl
theorem evOper_inv {o : AOper} {en : Env} {h : Heap} {r} (hs : evOper call base en h o = some r) : offOk en o = true ∧ evOp call base en h o.op = some r := by
  unfold evOper at hs
  split at hs
  · rename_i ho; exact ⟨ho, hs⟩
  · simp at hs
theorem evOper_of {o : AOper} {en : Env} {h : Heap} {r} (ho : offOk en o = true) (hs : evOp call base en h o.op = some r) : evOper call base en h o = some r := by
  unfold evOper
  rw [if_pos ho]
  exact hs
theorem inert_noCall {op : AOp} (hi : op.inert = true) : (∀ f a, op ≠ .call f a) ∧ ∀ f a t, op ≠ .callK f a t := ⟨fun f a e => by rw [e] at hi; simp [AOp.inert] at hi, fun f a t e => by rw [e] at hi; simp [AOp.inert] at hi⟩
theorem reads_noCall {op : AOp} (hi : op.reads = true) : (∀ f a, op ≠ .call f a) ∧ ∀ f a t, op ≠ .callK f a t := ⟨fun f a e => by rw [e] at hi; simp [AOp.reads, AOp.inert] at hi, fun f a t e => by rw [e] at hi; simp [AOp.reads, AOp.inert] at hi⟩
theorem evVal_inert {o : AOper} {en : Env} {h h' : Heap} {v : V} (hi : o.op.inert = true) (hs : evVal call base o en h = some (v, h')) : h' = h ∧ ∀ h2, evVal call base o en h2 = some (v, h2) := by
  rcases evVal_inv hs with ⟨hall, e⟩ | ⟨hall, rfl, rfl⟩
  · obtain ⟨ho, e⟩ := evOper_inv e
    rw [evOp_noCall (inert_noCall hi)] at e
    refine ⟨(inert_step hi e).1, fun h2 => ?_⟩
    rw [hall]
    exact evOper_of ho (by rw [evOp_noCall (inert_noCall hi)]; exact (inert_step hi e).2 base h2)
  · exact ⟨rfl, hall⟩
theorem evVal_reads {o : AOper} {en : Env} {h h' : Heap} {v : V} (hi : o.op.reads = true) (hs : evVal call base o en h = some (v, h')) :
    h' = h ∧ ∀ h2, (∀ b o', foot en o.op b → offOk en o = true → h[b]? = some o' → h2[b]? = some o') → evVal call base o en h2 = some (v, h2) := by
  rcases evVal_inv hs with ⟨hall, e⟩ | ⟨hall, rfl, rfl⟩
  · obtain ⟨ho, e⟩ := evOper_inv e
    rw [evOp_noCall (reads_noCall hi)] at e
    have h1 := (reads_step hi e).1
    subst h1
    refine ⟨rfl, fun h2 hk => ?_⟩
    rw [hall]
    exact evOper_of ho (by rw [evOp_noCall (reads_noCall hi)]; exact read_mono hi (fun b o' hf => hk b o' hf ho) e)
  · exact ⟨rfl, fun h2 _ => hall h2⟩
theorem Env.put_other {en : Env} {d : Option Nat} {v : V} {t : Nat} (h : d ≠ some t) : (en.put d v) t = en t := by
  cases d with
  | none => rfl
  | some d =>
    have : t ≠ d := fun e => h (by rw [e])
    simp [Env.put, Env.upd, this]
theorem Env.put_comm {en : Env} {a b : Option Nat} {v u : V} (h : ∀ d, a = some d → b ≠ some d) : (en.put a v).put b u = (en.put b u).put a v := by
  cases a with
  | none => rfl
  | some a =>
    cases b with
    | none => rfl
    | some b =>
      have hne : a ≠ b := fun e => h a rfl (by rw [e])
      funext t
      simp only [Env.put, Env.upd]
      split <;> split <;> simp_all
theorem memO_false {x : Option Nat} {l : List Nat} (h : memO x l = false) : ∀ t ∈ l, x ≠ some t := by
  intro t ht e
  rw [e] at h
  simp [memO, ht] at h
def QuietOk (quiet : FuncId → Nat) (call : CallF) : Prop :=
  (∀ k, quiet k ≠ 0 → ∀ base args h v h', call base k args h = some (v, h') → ∃ ext, h' = h ++ ext) ∧
  (∀ k, quiet k = 2 → ∀ base args h v h', call base k args h = some (v, h') → h' = h ∧ ∀ b2 h2, call b2 k args h2 = some (v, h2))
theorem ext_mono {h ext : Heap} {b : Nat} {o : Obj} (hb : h[b]? = some o) : (h ++ ext)[b]? = some o := by
  rw [List.getElem?_append_left (List.getElem?_eq_some_iff.1 hb).1]
  exact hb
theorem qtmp_target {qs : List Nat} {t : Nat} {en : Env} {args vs : List V} {k : FuncId} (h : zr ((Opd.qtmp qs t).get en) args = some (k, vs)) : k ∈ qs := by
  simp only [Opd.get] at h
  split at h
  · split at h
    · rename_i hc
      simp only [zr, Option.some.injEq, Prod.mk.injEq] at h
      rw [← h.1]
      simpa using hc
    · simp [zr] at h
  · simp [zr] at h
theorem grows_step {quiet : FuncId → Nat} (hq : QuietOk quiet call) {op : AOp} {en : Env} {h h' : Heap} {v : V} (hg : op.grows quiet = true) (hs : evOp call base en h op = some (v, h')) : ∃ ext, h' = h ++ ext := by
  unfold AOp.grows at hg
  split at hg
  · simp only [evOp, step, Option.some.injEq, Prod.mk.injEq] at hs
    exact ⟨_, hs.2.symm⟩
  · simp only [evOp, step] at hs
    split at hs
    · simp only [Option.some.injEq, Prod.mk.injEq] at hs
      exact ⟨_, hs.2.symm⟩
    · simp at hs
  · simp only [evOp, step, Option.bind_eq_some_iff] at hs
    obtain ⟨rs, _, hs⟩ := hs
    split at hs
    · split at hs
      · simp only [Option.some.injEq, Prod.mk.injEq] at hs
        exact ⟨_, hs.2.symm⟩
      · simp at hs
    split at hs
    · simp only [Option.some.injEq, Prod.mk.injEq] at hs
      exact ⟨[], by simp [hs.2]⟩
    · split at hs
      · simp only [Option.some.injEq, Prod.mk.injEq] at hs
        exact ⟨_, hs.2.symm⟩
      · simp at hs
  · simp only [evOp, step] at hs
    split at hs
    · split at hs
      · simp only [Option.some.injEq, Prod.mk.injEq] at hs
        exact ⟨_, hs.2.symm⟩
      · simp at hs
    · simp at hs
  · simp only [evOp, step] at hs
    split at hs
    · simp only [Option.some.injEq, Prod.mk.injEq] at hs
      exact ⟨_, hs.2.symm⟩
    · simp at hs
  · simp only [evOp, step] at hs
    split at hs
    · simp only [Option.some.injEq, Prod.mk.injEq] at hs
      exact ⟨_, hs.2.symm⟩
    · simp at hs
  · simp only [evOp, step, Option.some.injEq, Prod.mk.injEq] at hs
    exact ⟨_, hs.2.symm⟩
  · rename_i k args
    simp only [evOp, Opd.get, zr, List.nil_append, List.append_nil] at hs
    exact hq.1 k (by simpa using hg) _ _ _ _ _ hs
  · rename_i qs t args
    simp only [evOp] at hs
    split at hs
    · rename_i k vs ht
      exact hq.1 k (by simpa using List.all_eq_true.1 hg k (qtmp_target ht)) _ _ _ _ _ hs
    · simp at hs
  · simp at hg
theorem evVal_grows {quiet : FuncId → Nat} (hq : QuietOk quiet call) {o : AOper} {en : Env} {h h' : Heap} {v : V} (hg : o.op.grows quiet = true) (hs : evVal call base o en h = some (v, h')) : ∃ ext, h' = h ++ ext := by
  rcases evVal_inv hs with ⟨_, e⟩ | ⟨_, _, rfl⟩
  · exact grows_step hq hg (evOper_inv e).2
  · exact ⟨[], by simp⟩
theorem storeV_other {n : Nat} {h h' : Heap} {a x : V} (hs : storeV base h n a x = some h') : ∀ b, blockOf a ≠ some b → h'[b]? = h[b]? := by
  intro b hb
  unfold storeV at hs
  split at hs
  · split at hs
    · rename_i c off
      have hne : c ≠ b := fun e => hb (by rw [e]; rfl)
      split at hs
      · split at hs
        · injection hs with hs
          rw [← hs, List.getElem?_set_ne hne]
        · simp at hs
      · simp at hs
    · rename_i c e i off
      have hne : c ≠ b := fun e => hb (by rw [e]; rfl)
      split at hs
      · split at hs
        · split at hs
          · split at hs
            · injection hs with hs
              rw [← hs, List.getElem?_set_ne hne]
            · split at hs
              · injection hs with hs
                rw [← hs, List.getElem?_set_ne hne]
              · simp at hs
          · simp at hs
        · simp at hs
      · simp at hs
    · simp at hs
  · simp at hs
theorem evVal_clear {x y : AOper} {en : Env} {h h' : Heap} {u : V} (hc : x.clear y = true) (hs : evVal call base y en h = some (u, h')) :
    ∀ b o', foot en x.op b → offOk en x = true → h[b]? = some o' → h'[b]? = some o' := by
  intro b o' hf hoff hb
  rcases evVal_inv hs with ⟨_, e⟩ | ⟨_, _, rfl⟩
  · have e := (evOper_inv e).2
    unfold AOper.clear at hc
    split at hc
    · rename_i n t z eop
      rw [eop] at e
      simp only [evOp, step, Option.map_eq_some_iff, Prod.mk.injEq, Opd.get] at e
      obtain ⟨h2, e1, _, rfl⟩ := e
      rw [storeV_other e1 b]
      · exact hb
      · intro eb
        obtain ⟨z, hz, ez⟩ := hf
        have := List.all_eq_true.1 hoff t (by simpa using hc)
        rw [eb] at this
        simp only [List.all_eq_true] at this
        have := this z hz
        simp [ez] at this
    · simp at hc
  · exact hb
theorem evVal_inertQ {quiet : FuncId → Nat} (hq : QuietOk quiet call) {o : AOper} {en : Env} {h h' : Heap} {v : V} (hi : o.op.inertQ quiet = true) (hs : evVal call base o en h = some (v, h')) : h' = h ∧ ∀ h2, evVal call base o en h2 = some (v, h2) := by
  by_cases hin : o.op.inert = true
  · exact evVal_inert hin hs
  rcases evVal_inv hs with ⟨hall, e⟩ | ⟨hall, rfl, rfl⟩
  · obtain ⟨ho, e⟩ := evOper_inv e
    unfold AOp.inertQ at hi
    split at hi
    · rename_i k args eop
      rw [eop] at e
      simp only [evOp, Opd.get, zr, List.nil_append, List.append_nil] at e
      obtain ⟨q1, q2⟩ := hq.2 k (by simpa using hi) _ _ _ _ _ e
      refine ⟨q1, fun h2 => ?_⟩
      rw [hall]
      refine evOper_of ho ?_
      rw [eop]
      simp only [evOp, Opd.get, zr, List.nil_append, List.append_nil]
      exact q2 base h2
    · rename_i qs t args eop
      rw [eop] at e
      simp only [evOp] at e
      split at e
      · rename_i k vs ht
        obtain ⟨q1, q2⟩ := hq.2 k (by simpa using List.all_eq_true.1 hi k (qtmp_target ht)) _ _ _ _ _ e
        refine ⟨q1, fun h2 => ?_⟩
        rw [hall]
        refine evOper_of ho ?_
        rw [eop]
        simp only [evOp, ht]
        exact q2 base h2
      · simp at e
    · exact absurd hi hin
  · exact ⟨rfl, hall⟩
theorem swap {quiet : FuncId → Nat} (hq : QuietOk quiet call) {x y : AOper} (hc : commB quiet x y = true) {en : Env} {h : Heap} {r : List AOper} {z : Env × Heap} (hs : evOps call base (x :: y :: r) en h = some z) : evOps call base (y :: x :: r) en h = some z := by
  simp only [commB, Bool.and_eq_true, Bool.not_eq_true', Bool.or_eq_true] at hc
  obtain ⟨⟨⟨hxy, hyx⟩, hd⟩, hm⟩ := hc
  have hd' : ∀ d, x.dst = some d → y.dst ≠ some d := by
    intro d e1 e2
    rw [e1, e2] at hd
    simp at hd
  simp only [evOps_cons, Option.bind_eq_some_iff] at hs ⊢
  obtain ⟨⟨v, h1⟩, e1, ⟨u, h2⟩, e2, e3⟩ := hs
  simp only at e1 e2 e3
  have cx : ∀ (u : V) (h : Heap), evVal call base x (en.put y.dst u) h = evVal call base x en h := fun u h => evVal_congr fun t ht => Env.put_other (memO_false hyx t ht)
  rw [evVal_congr (o := y) (en' := en) fun t ht => Env.put_other (memO_false hxy t ht)] at e2
  rw [Env.put_comm hd'] at e3
  rcases hm with (hm | hm) | ⟨hmx, hmy⟩
  · obtain ⟨rfl, hall⟩ := evVal_inertQ hq hm e1
    exact ⟨(u, h2), e2, (v, h2), by rw [cx]; exact hall h2, e3⟩
  · obtain ⟨rfl, hall⟩ := evVal_inertQ hq hm e2
    exact ⟨(u, h), hall h, (v, h2), by rw [cx]; exact e1, e3⟩
  · obtain ⟨rfl, hall⟩ := evVal_reads hmx e1
    rcases hmy with (hmy | hmy) | hmy
    · obtain ⟨rfl, _⟩ := evVal_reads hmy e2
      exact ⟨(u, h2), e2, (v, h2), by rw [cx]; exact e1, e3⟩
    · obtain ⟨ext, rfl⟩ := evVal_grows hq hmy e2
      exact ⟨(u, _), e2, (v, _), by rw [cx]; exact hall _ (fun b o' _ _ hb => ext_mono hb), e3⟩
    · exact ⟨(u, h2), e2, (v, h2), by rw [cx]; exact hall _ (evVal_clear hmy e2), e3⟩
theorem evOps_append (p r : List AOper) (en : Env) (h : Heap) : evOps call base (p ++ r) en h = (evOps call base p en h).bind fun z => evOps call base r z.1 z.2 := by
  induction p generalizing en h with
  | nil => rfl
  | cons o p ih =>
    rw [List.cons_append, evOps_cons, evOps_cons]
    cases evVal call base o en h with
    | none => rfl
    | some z => exact ih _ _
theorem front {quiet : FuncId → Nat} (hq : QuietOk quiet call) {y : AOper} {r : List AOper} : ∀ {p : List AOper} {en : Env} {h : Heap} {z : Env × Heap}, (∀ x ∈ p, commB quiet x y = true) → evOps call base (p ++ y :: r) en h = some z → evOps call base (y :: (p ++ r)) en h = some z
  | [], _, _, _, _, hs => hs
  | x :: p, en, h, z, hc, hs => by
    refine swap hq (hc x (by simp)) ?_
    rw [List.cons_append, evOps_cons, Option.bind_eq_some_iff] at hs
    obtain ⟨q, e1, e2⟩ := hs
    rw [evOps_cons, Option.bind_eq_some_iff]
    exact ⟨q, e1, front hq (fun x hx => hc x (by simp [hx])) e2⟩
theorem frz_op {op : AOp} {en : Env} {h h' : Heap} {v : V} (hs : evOp call base en h op.frz = some (v, h')) : evOp call base en h op = some (v, h') := by
  cases op
  case load n a =>
    simp only [AOp.frz, evOp, step] at hs ⊢
    split at hs
    · rename_i cs off e
      rw [e]
      simpa only [zl] using hs
    · simp at hs
  case indexS sz x i =>
    simp only [AOp.frz, evOp, step, Option.bind_eq_some_iff] at hs ⊢
    obtain ⟨k, hk, hs⟩ := hs
    refine ⟨k, hk, ?_⟩
    split at hs
    · rename_i e2 z rs e
      rw [e]
      split at hs
      · rename_i hz
        simp only [Option.map_eq_some_iff, Prod.mk.injEq] at hs
        obtain ⟨cs, h1, rfl, rfl⟩ := hs
        simp [zi, hz, h1]
      · simp at hs
    · simp at hs
  case sliceArr n sz x lo hi =>
    simp only [AOp.frz, evOp, step] at hs ⊢
    split at hs
    · rename_i e1 e2 e3
      rw [e1, e2, e3]
      exact hs
    · simp at hs
  all_goals exact hs
def Stands (a b : AOper) : Prop := a.dst = b.dst ∧ a.guard = b.guard ∧ ∀ (call : CallF) (base : Nat) (en : Env) (h : Heap) (r : V × Heap), evOper call base en h a = some r → evOper call base en h b = some r
theorem Stands.refl (a : AOper) : Stands a a := ⟨rfl, rfl, fun _ _ _ _ _ h => h⟩
theorem offOk_nil {o : AOper} (h : o.off = []) (en : Env) : offOk en o = true := by simp [offOk, h]
theorem Stands.frz {a : AOper} (h : a.off = []) : Stands a.frz a := by
  refine ⟨rfl, rfl, fun call base en hh r hs => ?_⟩
  exact evOper_of (offOk_nil h en) (frz_op (evOper_inv hs).2)
theorem Stands.keep {a : AOper} (av : List Nat) (h : a.off = []) : Stands (a.keep av) a := by
  unfold AOper.keep
  split
  · refine ⟨rfl, rfl, fun call base en hh r hs => ?_⟩
    exact evOper_of (offOk_nil h en) (evOper_inv hs).2
  · exact Stands.refl a
theorem Stands.val {a b : AOper} (hst : Stands a b) {en : Env} {h : Heap} {r : V × Heap} (hs : evVal call base a en h = some r) : evVal call base b en h = some r := by
  obtain ⟨_, hg, hev⟩ := hst
  rcases hga : a.guard with _ | ⟨g, want⟩
  · have hgb := hg ▸ hga
    simp only [evVal, hga] at hs
    simp only [evVal, hgb]
    exact hev _ _ _ _ _ hs
  · have hgb := hg ▸ hga
    simp only [evVal, hga] at hs
    simp only [evVal, hgb]
    cases hen : gOk (en g) want with
    | none => rw [hen] at hs; simp at hs
    | some t =>
      rw [hen] at hs
      cases t with
      | true => exact hev _ _ _ _ _ hs
      | false => exact hs
end
end
section
def CallLe (c d : CallF) : Prop := ∀ b f a h r, c b f a h = some r → d b f a h = some r
theorem evOper_mono {c d : CallF} (hc : CallLe c d) {base : Nat} {en : Env} {h : Heap} {o : AOper} {r : V × Heap} (hs : evOper c base en h o = some r) : evOper d base en h o = some r := by
  obtain ⟨ho, hs⟩ := evOper_inv hs
  refine evOper_of ho ?_
  unfold evOp at hs ⊢
  split at hs
  · split at hs
    · exact hc _ _ _ _ _ hs
    · simp at hs
  · split at hs
    · split at hs
      · rename_i v h' e1
        rw [hc _ _ _ _ _ e1]
        exact hs
      · simp at hs
    · simp at hs
  · exact hs
theorem evVal_mono {c d : CallF} (hc : CallLe c d) {base : Nat} {en : Env} {h : Heap} {o : AOper} {r : V × Heap} (hs : evVal c base o en h = some r) : evVal d base o en h = some r := by
  unfold evVal at hs ⊢
  split at hs
  · exact evOper_mono hc hs
  · rename_i g want hg
    cases hen : gOk (en g) want with
    | none => rw [hen] at hs; simp at hs
    | some t =>
      rw [hen] at hs
      cases t with
      | true => exact evOper_mono hc hs
      | false => exact hs
theorem evOps_mono {c d : CallF} (hc : CallLe c d) {base : Nat} : ∀ {ops : List AOper} {en : Env} {h : Heap} {r : Env × Heap}, evOps c base ops en h = some r → evOps d base ops en h = some r
  | [], _, _, _, hs => hs
  | o :: ops, en, h, r, hs => by
    rw [evOps_cons, Option.bind_eq_some_iff] at hs ⊢
    obtain ⟨p, h1, h2⟩ := hs
    exact ⟨p, evVal_mono hc h1, evOps_mono hc h2⟩
theorem iter_mono {f g : Env → Heap → Option (Ex × Env × Heap)} (hf : ∀ en h r, f en h = some r → g en h = some r) : ∀ {n m : Nat} {en : Env} {h : Heap} {r}, n ≤ m → iter f n en h = some r → iter g m en h = some r
  | 0, _, _, _, _, _, hs => by simp [iter] at hs
  | n + 1, 0, _, _, _, hnm, _ => by omega
  | n + 1, m + 1, en, h, r, hnm, hs => by
    unfold iter at hs ⊢
    split at hs
    · rename_i en1 h1 e1
      rw [hf _ _ _ e1]
      exact iter_mono hf (by omega) hs
    · rename_i hno
      rw [hf _ _ _ hs]
      split
      · rename_i e2
        injection e2 with e2
        subst e2
        exact absurd hs (hno _ _)
      · rfl
theorem evC_mono {c d : CallF} (hc : CallLe c d) {base n m : Nat} (hnm : n ≤ m) : ∀ {ac : ACode} {en : Env} {h : Heap} {r}, evC c base n ac en h = some r → evC d base m ac en h = some r
  | .skip, _, _, _, hs | .ret, _, _, _, hs | .exit _, _, _, _, hs | .fail, _, _, _, hs => by simp [evC] at hs ⊢ <;> exact hs
  | .seq a b, en, h, r, hs => by
    simp only [evC] at hs ⊢
    split at hs
    · rename_i en1 h1 e1
      rw [evC_mono hc hnm e1]
      exact evC_mono hc hnm hs
    · rename_i hno
      rw [evC_mono hc hnm hs]
      split
      · rename_i e2
        injection e2 with e2
        subst e2
        exact absurd hs (hno _ _)
      · rfl
  | .cond x a b, en, h, r, hs => by
    simp only [evC] at hs ⊢
    split at hs
    · split at hs
      · rename_i ht; rw [if_pos ht]; exact evC_mono hc hnm hs
      · rename_i ht; rw [if_neg ht]; exact evC_mono hc hnm hs
    · simp at hs
  | .region ops, en, h, r, hs => by
    simp only [evC] at hs ⊢
    split at hs
    · rename_i en1 h1 e1
      rw [evOps_mono hc e1]
      exact hs
    · simp at hs
  | .block id x, en, h, r, hs => by
    simp only [evC] at hs ⊢
    split at hs
    · rename_i i en1 h1 e1
      rw [evC_mono hc hnm e1]
      exact hs
    · rename_i hno
      rw [evC_mono hc hnm hs]
      split
      · rename_i e2
        injection e2 with e2
        subst e2
        exact absurd hs (hno _ _ _)
      · rfl
  | .loop x, en, h, r, hs => by
    simp only [evC] at hs ⊢
    exact iter_mono (fun _ _ _ e => evC_mono hc hnm e) hnm hs
mutual
theorem freezeV_mono {h : Heap} {base : Nat} : ∀ {n m : Nat} {v r : V}, n ≤ m → freezeV h base n v = some r → freezeV h base m v = some r
  | 0, _, _, _, _, hs => by simp [freezeV] at hs
  | n + 1, 0, _, _, hnm, _ => by omega
  | n + 1, m + 1, v, r, hnm, hs => by
    cases v
    case hsl b e off len =>
      simp only [freezeV] at hs ⊢
      split at hs
      · rename_i hb; rw [if_pos hb]; exact hs
      · rename_i hb
        rw [if_neg hb]
        split at hs
        · split at hs
          · rename_i hl
            rw [if_pos hl]
            split at hs
            · rename_i hg; rw [if_pos hg]; exact hs
            · rename_i hg
              rw [if_neg hg]
              simp only [Option.bind_eq_some_iff] at hs ⊢
              obtain ⟨x, h1, h2⟩ := hs
              exact ⟨x, freezeRows_mono (by omega) h1, h2⟩
          · simp at hs
        · simp at hs
    case agg cs =>
      simp only [freezeV, Option.map_eq_some_iff] at hs ⊢
      obtain ⟨x, h1, h2⟩ := hs
      exact ⟨x, freezeVs_mono (by omega) h1, h2⟩
    case tup cs =>
      simp only [freezeV, Option.map_eq_some_iff] at hs ⊢
      obtain ⟨x, h1, h2⟩ := hs
      exact ⟨x, freezeVs_mono (by omega) h1, h2⟩
    all_goals simpa only [freezeV] using hs
theorem freezeVs_mono {h : Heap} {base : Nat} : ∀ {n m : Nat} {v r : List V}, n ≤ m → freezeVs h base n v = some r → freezeVs h base m v = some r
  | 0, _, _, _, _, hs => by simp [freezeVs] at hs
  | n + 1, 0, _, _, hnm, _ => by omega
  | n + 1, m + 1, [], r, hnm, hs => by simpa only [freezeVs] using hs
  | n + 1, m + 1, v :: vs, r, hnm, hs => by
    simp only [freezeVs, Option.bind_eq_some_iff, Option.map_eq_some_iff] at hs ⊢
    obtain ⟨x, h1, y, h2, h3⟩ := hs
    exact ⟨x, freezeV_mono (by omega) h1, y, freezeVs_mono (by omega) h2, h3⟩
theorem freezeRows_mono {h : Heap} {base : Nat} : ∀ {n m : Nat} {v r : List (List V)}, n ≤ m → freezeRows h base n v = some r → freezeRows h base m v = some r
  | 0, _, _, _, _, hs => by simp [freezeRows] at hs
  | n + 1, 0, _, _, hnm, _ => by omega
  | n + 1, m + 1, [], r, hnm, hs => by simpa only [freezeRows] using hs
  | n + 1, m + 1, v :: vs, r, hnm, hs => by
    simp only [freezeRows, Option.bind_eq_some_iff, Option.map_eq_some_iff] at hs ⊢
    obtain ⟨x, h1, y, h2, h3⟩ := hs
    exact ⟨x, freezeVs_mono (by omega) h1, y, freezeRows_mono (by omega) h2, h3⟩
end
theorem evFunc_mono {c d : CallF} (hc : CallLe c d) {n m base : Nat} (hnm : n ≤ m) {A : AFunc} {args : List V} {h : Heap} {r : V × Heap} (hs : evFunc c n base A args h = some r) : evFunc d m base A args h = some r := by
  unfold evFunc at hs ⊢
  split at hs
  · rename_i hl
    rw [if_pos hl]
    simp only at hs ⊢
    split at hs
    · simp at hs
    · rename_i ex en h1 hno e1
      rw [evC_mono hc hnm e1]
      simp only
      cases ex with
      | exit id => exact absurd rfl (hno id)
      | normal =>
        simp only [Option.bind_eq_some_iff] at hs ⊢
        obtain ⟨x, h2, h3⟩ := hs
        refine ⟨x, h2, ?_⟩
        split at h3
        · rename_i hp
          simp only [if_pos hp, Option.map_eq_some_iff] at h3 ⊢
          obtain ⟨y, h4, h5⟩ := h3
          exact ⟨y, freezeV_mono hnm h4, h5⟩
        · rename_i hp
          rw [if_neg hp]
          exact h3
      | ret =>
        simp only [Option.bind_eq_some_iff] at hs ⊢
        obtain ⟨x, h2, h3⟩ := hs
        refine ⟨x, h2, ?_⟩
        split at h3
        · rename_i hp
          simp only [if_pos hp, Option.map_eq_some_iff] at h3 ⊢
          obtain ⟨y, h4, h5⟩ := h3
          exact ⟨y, freezeV_mono hnm h4, h5⟩
        · rename_i hp
          rw [if_neg hp]
          exact h3
    · simp at hs
  · simp at hs
section
variable {X : FuncId → Option (Nat → List V → Heap → Option (V × Heap))} {F : FuncId → Option AFunc}
theorem evCall_mono : ∀ {n m : Nat}, n ≤ m → CallLe (evCall X F n) (evCall X F m)
  | 0, _, _ => fun _ _ _ _ _ hs => by simp [evCall] at hs
  | n + 1, 0, hnm => by omega
  | n + 1, m + 1, hnm => fun b f a h r hs => by
    unfold evCall at hs ⊢
    split at hs
    · exact hs
    · split at hs
      · exact evFunc_mono (evCall_mono (by omega)) (by omega) hs
      · simp at hs
end
structure Fns where
  X : FuncId → Option (Nat → List V → Heap → Option (V × Heap))
  F : FuncId → Option AFunc
section
variable (S : Fns) (base : Nat)
def WpF (f : FuncId) (args : List V) (h : Heap) (Q : V → Heap → Prop) : Prop := ∃ n v h', evCall S.X S.F n base f args h = some (v, h') ∧ Q v h'
def WpO (ops : List AOper) (en : Env) (h : Heap) (Q : Env → Heap → Prop) : Prop := ∃ n en' h', evOps (evCall S.X S.F n) base ops en h = some (en', h') ∧ Q en' h'
def WpC (c : ACode) (en : Env) (h : Heap) (Q : Ex → Env → Heap → Prop) : Prop := ∃ n ex en' h', evC (evCall S.X S.F n) base n c en h = some (ex, en', h') ∧ Q ex en' h'
end
section
variable {S : Fns} {base : Nat}
theorem WpF.mono {f : FuncId} {args : List V} {h : Heap} {Q R : V → Heap → Prop} (hw : WpF S base f args h Q) (hq : ∀ v h', Q v h' → R v h') : WpF S base f args h R :=
  let ⟨n, v, h', e, q⟩ := hw; ⟨n, v, h', e, hq _ _ q⟩
theorem WpC.mono {c : ACode} {en : Env} {h : Heap} {Q R : Ex → Env → Heap → Prop} (hw : WpC S base c en h Q) (hq : ∀ ex en h', Q ex en h' → R ex en h') : WpC S base c en h R :=
  let ⟨n, ex, en, h', e, q⟩ := hw; ⟨n, ex, en, h', e, hq _ _ _ q⟩
theorem WpO.nil {en : Env} {h : Heap} {Q : Env → Heap → Prop} (hq : Q en h) : WpO S base [] en h Q := ⟨0, en, h, rfl, hq⟩
theorem WpO.op {dst : Option Nat} {op : AOp} {r : List AOper} {en : Env} {h h1 : Heap} {v : V} {Q : Env → Heap → Prop} (hs : step base en h op = some (v, h1)) (hn : WpO S base r (en.put dst v) h1 Q) :
    WpO S base (⟨dst, op, none, []⟩ :: r) en h Q := by
  obtain ⟨n, en', h', e, q⟩ := hn
  refine ⟨n, en', h', ?_, q⟩
  rw [evOps_cons]
  have : evVal (evCall S.X S.F n) base ⟨dst, op, none, []⟩ en h = some (v, h1) := by
    simp only [evVal, evOper, offOk, List.all_nil, if_true, evOp]
    split
    · simp [step] at hs
    · simp [step] at hs
    · exact hs
  rw [this]
  exact e
theorem WpO.call {dst : Option Nat} {f : Opd} {args : List Opd} {r : List AOper} {en : Env} {h : Heap} {k : FuncId} {vs : List V} {Q : Env → Heap → Prop} (ht : zr (f.get en) (zh en args) = some (k, vs))
    (hw : WpF S base k vs h fun v h1 => WpO S base r (en.put dst v) h1 Q) : WpO S base (⟨dst, .call f args, none, []⟩ :: r) en h Q := by
  obtain ⟨n, v, h1, e1, m, en', h', e2, q⟩ := hw
  refine ⟨max n m, en', h', ?_, q⟩
  rw [evOps_cons]
  have : evVal (evCall S.X S.F (max n m)) base ⟨dst, .call f args, none, []⟩ en h = some (v, h1) := by
    simp only [evVal, evOper, offOk, List.all_nil, if_true, evOp, ht]
    exact evCall_mono (Nat.le_max_left n m) _ _ _ _ _ e1
  rw [this]
  exact evOps_mono (evCall_mono (Nat.le_max_right n m)) e2
theorem WpO.keep {dst : Option Nat} {op : AOp} {g : Option (Nat × Bool)} {off : List Nat} {r : List AOper} {en : Env} {h : Heap} {Q : Env → Heap → Prop} (ho : offOk en ⟨dst, op, g, off⟩ = true) (hw : WpO S base (⟨dst, op, g, []⟩ :: r) en h Q) :
    WpO S base (⟨dst, op, g, off⟩ :: r) en h Q := by
  obtain ⟨n, en', h', e, q⟩ := hw
  refine ⟨n, en', h', ?_, q⟩
  rw [evOps_cons] at e ⊢
  have hev : evOper (evCall S.X S.F n) base en h ⟨dst, op, g, off⟩ = evOper (evCall S.X S.F n) base en h ⟨dst, op, g, []⟩ := by
    unfold evOper
    rw [ho]
    rfl
  have : evVal (evCall S.X S.F n) base ⟨dst, op, g, off⟩ en h = evVal (evCall S.X S.F n) base ⟨dst, op, g, []⟩ en h := by
    simp only [evVal, hev]
  rw [this]
  exact e
theorem WpO.take {dst : Option Nat} {op : AOp} {g : Nat} {want : Bool} {r : List AOper} {en : Env} {h : Heap} {Q : Env → Heap → Prop} (hg : en g = .bool want) (hw : WpO S base (⟨dst, op, none, []⟩ :: r) en h Q) :
    WpO S base (⟨dst, op, some (g, want), []⟩ :: r) en h Q := by
  obtain ⟨n, en', h', e, q⟩ := hw
  refine ⟨n, en', h', ?_, q⟩
  rw [evOps_cons] at e ⊢
  have : evVal (evCall S.X S.F n) base ⟨dst, op, some (g, want), []⟩ en h = evVal (evCall S.X S.F n) base ⟨dst, op, none, []⟩ en h := by
    simp only [evVal, hg, gOk, beq_self_eq_true]
    rfl
  rw [this]
  exact e
theorem WpO.leave {dst : Option Nat} {op : AOp} {g : Nat} {t want : Bool} {r : List AOper} {en : Env} {h : Heap} {Q : Env → Heap → Prop} (hg : en g = .bool t) (hne : t ≠ want) (hw : WpO S base r (en.put dst (.tup [])) h Q) :
    WpO S base (⟨dst, op, some (g, want), []⟩ :: r) en h Q := by
  obtain ⟨n, en', h', e, q⟩ := hw
  refine ⟨n, en', h', ?_, q⟩
  rw [evOps_cons]
  have : evVal (evCall S.X S.F n) base ⟨dst, op, some (g, want), []⟩ en h = some (.tup [], h) := by
    have : (t == want) = false := by simpa using hne
    simp only [evVal, hg, gOk, this]
  rw [this]
  exact e
theorem WpC.skip {en : Env} {h : Heap} {Q : Ex → Env → Heap → Prop} (hq : Q .normal en h) : WpC S base .skip en h Q := ⟨0, _, _, _, rfl, hq⟩
theorem WpC.ret {en : Env} {h : Heap} {Q : Ex → Env → Heap → Prop} (hq : Q .ret en h) : WpC S base .ret en h Q := ⟨0, _, _, _, rfl, hq⟩
theorem WpC.exit {id : Nat} {en : Env} {h : Heap} {Q : Ex → Env → Heap → Prop} (hq : Q (.exit id) en h) : WpC S base (.exit id) en h Q := ⟨0, _, _, _, rfl, hq⟩
theorem WpC.region {ops : List AOper} {en : Env} {h : Heap} {Q : Ex → Env → Heap → Prop} (hw : WpO S base ops en h (Q .normal)) : WpC S base (.region ops) en h Q := by
  obtain ⟨n, en', h', e, q⟩ := hw
  exact ⟨n, .normal, en', h', by simp only [evC, e], q⟩
def thenQ (K : Env → Heap → Prop) (Q : Ex → Env → Heap → Prop) : Ex → Env → Heap → Prop
  | .normal => K
  | ex => Q ex
theorem WpC.seq {a b : ACode} {en : Env} {h : Heap} {Q : Ex → Env → Heap → Prop} (hw : WpC S base a en h (thenQ (fun en h => WpC S base b en h Q) Q)) : WpC S base (.seq a b) en h Q := by
  obtain ⟨n, ex, en1, h1, e1, q⟩ := hw
  cases ex with
  | normal =>
    obtain ⟨m, ex, en', h', e2, q⟩ := q
    refine ⟨max n m, ex, en', h', ?_, q⟩
    simp only [evC, evC_mono (evCall_mono (Nat.le_max_left n m)) (Nat.le_max_left n m) e1]
    exact evC_mono (evCall_mono (Nat.le_max_right n m)) (Nat.le_max_right n m) e2
  | exit id => exact ⟨n, _, _, _, by simp only [evC, e1], q⟩
  | ret => exact ⟨n, _, _, _, by simp only [evC, e1], q⟩
theorem WpC.cond {c : Opd} {a b : ACode} {en : Env} {h : Heap} {t : Bool} {Q : Ex → Env → Heap → Prop} (hc : c.get en = .bool t) (hw : if t then WpC S base a en h Q else WpC S base b en h Q) : WpC S base (.cond c a b) en h Q := by
  cases t with
  | true =>
    obtain ⟨n, ex, en', h', e, q⟩ := hw
    exact ⟨n, ex, en', h', by simp only [evC, hc, if_true]; exact e, q⟩
  | false =>
    simp only [Bool.false_eq_true, if_false] at hw
    obtain ⟨n, ex, en', h', e, q⟩ := hw
    exact ⟨n, ex, en', h', by simp only [evC, hc, Bool.false_eq_true, if_false]; exact e, q⟩
def blockQ (id : Nat) (Q : Ex → Env → Heap → Prop) : Ex → Env → Heap → Prop
  | .exit i => if i = id then Q .normal else Q (.exit i)
  | ex => Q ex
theorem WpC.block {id : Nat} {c : ACode} {en : Env} {h : Heap} {Q : Ex → Env → Heap → Prop} (hw : WpC S base c en h (blockQ id Q)) : WpC S base (.block id c) en h Q := by
  obtain ⟨n, ex, en', h', e, q⟩ := hw
  cases ex with
  | normal => exact ⟨n, _, _, _, by simp only [evC, e], q⟩
  | ret => exact ⟨n, _, _, _, by simp only [evC, e], q⟩
  | exit i =>
    simp only [blockQ] at q
    by_cases hi : i = id
    · rw [if_pos hi] at q
      exact ⟨n, .normal, _, _, by simp only [evC, e, if_pos hi], q⟩
    · rw [if_neg hi] at q
      exact ⟨n, .exit i, _, _, by simp only [evC, e, if_neg hi], q⟩
theorem WpC.loop {c : ACode} {en : Env} {h : Heap} {Q : Ex → Env → Heap → Prop} (hw : WpC S base c en h (thenQ (fun en h => WpC S base (.loop c) en h Q) Q)) : WpC S base (.loop c) en h Q := by
  obtain ⟨n, ex, en1, h1, e1, q⟩ := hw
  cases ex with
  | normal =>
    obtain ⟨m, ex, en', h', e2, q⟩ := q
    refine ⟨max n m + 1, ex, en', h', ?_, q⟩
    simp only [evC, iter] at e2 ⊢
    rw [evC_mono (evCall_mono (Nat.le_succ_of_le (Nat.le_max_left n m))) (Nat.le_succ_of_le (Nat.le_max_left n m)) e1]
    simp only
    exact iter_mono (fun _ _ _ e => evC_mono (evCall_mono (Nat.le_succ_of_le (Nat.le_max_right n m))) (Nat.le_succ_of_le (Nat.le_max_right n m)) e) (Nat.le_max_right n m) e2
  | exit id => exact ⟨n + 1, _, _, _, by simp only [evC, iter]; rw [evC_mono (evCall_mono (Nat.le_succ n)) (Nat.le_succ n) e1], q⟩
  | ret => exact ⟨n + 1, _, _, _, by simp only [evC, iter]; rw [evC_mono (evCall_mono (Nat.le_succ n)) (Nat.le_succ n) e1], q⟩
theorem WpC.loopInv {c : ACode} {Q : Ex → Env → Heap → Prop} (I : Nat → Env → Heap → Prop) (hstep : ∀ k en h, I k en h → WpC S base c en h (thenQ (fun en' h' => ∃ j, j < k ∧ I j en' h') Q)) :
    ∀ k en h, I k en h → WpC S base (.loop c) en h Q := by
  intro k
  induction k using Nat.strongRecOn with
  | _ k ih =>
    intro en h hi
    refine WpC.loop ((hstep k en h hi).mono fun ex en' h' q => ?_)
    cases ex with
    | normal => obtain ⟨j, hj, hi'⟩ := q; exact ih j hj en' h' hi'
    | exit id => exact q
    | ret => exact q
theorem WpF.body {f : FuncId} {A : AFunc} {args : List V} {h : Heap} {Q : V → Heap → Prop} (hX : S.X f = none) (hF : S.F f = some A) (hp : A.pure = false) (hl : args.length = A.nparams)
    (hw : WpC S base A.body (fun t => args.getD t .undef) h fun ex en h' => (∀ i, ex ≠ .exit i) ∧ ∃ rs, ze en h' A.results = some rs ∧ Q (za rs) h') : WpF S base f args h Q := by
  obtain ⟨n, ex, en, h', e, hno, rs, hr, q⟩ := hw
  refine ⟨n + 1, za rs, h', ?_, q⟩
  simp only [evCall, hX, hF, evFunc, hp, Bool.false_eq_true, if_false, if_pos hl, e]
  cases ex with
  | exit i => exact absurd rfl (hno i)
  | normal => simp [hr]
  | ret => simp [hr]
theorem WpF.bodyPure {f : FuncId} {A : AFunc} {args : List V} {h : Heap} {Q : V → Heap → Prop} (hX : S.X f = none) (hF : S.F f = some A) (hp : A.pure = true) (hl : args.length = A.nparams)
    (hw : WpC S h.length A.body (fun t => args.getD t .undef) h fun ex en h' => (∀ i, ex ≠ .exit i) ∧ ∃ rs, ze en h' A.results = some rs ∧ ∃ n v, freezeV h' h.length n (za rs) = some v ∧ Q v (h'.take h.length)) : WpF S base f args h Q := by
  obtain ⟨n, ex, en, h', e, hno, rs, hr, m, v, hv, q⟩ := hw
  refine ⟨max n m + 1, v, h'.take h.length, ?_, q⟩
  simp only [evCall, hX, hF, evFunc, hp, if_true, if_pos hl, evC_mono (evCall_mono (Nat.le_max_left n m)) (Nat.le_max_left n m) e]
  cases ex with
  | exit i => exact absurd rfl (hno i)
  | normal => simp [hr, freezeV_mono (Nat.le_max_right n m) hv]
  | ret => simp [hr, freezeV_mono (Nat.le_max_right n m) hv]
theorem WpF.ext {f : FuncId} {g : Nat → List V → Heap → Option (V × Heap)} {args : List V} {h h' : Heap} {v : V} {Q : V → Heap → Prop} (hX : S.X f = some g) (he : g base args h = some (v, h')) (hq : Q v h') : WpF S base f args h Q :=
  ⟨1, v, h', by simp only [evCall, hX, he], hq⟩
end
end
section
def okQ (x : Option (V × Heap)) (Q : V → Heap → Prop) : Prop :=
  match x with
  | some (v, h) => Q v h
  | none => False
def boolQ (v : V) (Q : Bool → Prop) : Prop :=
  match v with
  | .sc (.bool t) => Q t
  | _ => False
@[simp] theorem okQ_some (v : V) (h : Heap) (Q : V → Heap → Prop) : okQ (some (v, h)) Q = Q v h := rfl
@[simp] theorem okQ_none (Q : V → Heap → Prop) : okQ none Q = False := rfl
@[simp] theorem boolQ_bool (t : Bool) (Q : Bool → Prop) : boolQ (.sc (.bool t)) Q = Q t := rfl
section
variable {S : Fns} {base : Nat}
theorem WpO_nil {en : Env} {h : Heap} {Q : Env → Heap → Prop} : WpO S base [] en h Q ↔ Q en h := by
  constructor
  · rintro ⟨n, en', h', e, q⟩
    simp only [evOps, Option.some.injEq, Prod.mk.injEq] at e
    obtain ⟨rfl, rfl⟩ := e
    exact q
  · exact WpO.nil
theorem WpO_op {dst : Option Nat} {op : AOp} {r : List AOper} {en : Env} {h : Heap} {Q : Env → Heap → Prop} (hn : (∀ f a, op ≠ .call f a) ∧ ∀ f a t, op ≠ .callK f a t) :
    WpO S base (⟨dst, op, none, []⟩ :: r) en h Q ↔ okQ (step base en h op) fun v h1 => WpO S base r (en.put dst v) h1 Q := by
  constructor
  · rintro ⟨n, en', h', e, q⟩
    rw [evOps_cons] at e
    have hv : evVal (evCall S.X S.F n) base ⟨dst, op, none, []⟩ en h = step base en h op := by
      simp only [evVal, evOper, offOk, List.all_nil, if_true, evOp_noCall hn]
    rw [hv, Option.bind_eq_some_iff] at e
    obtain ⟨⟨v, h1⟩, e1, e2⟩ := e
    rw [e1]
    exact ⟨n, en', h', e2, q⟩
  · intro hq
    cases hs : step base en h op with
    | none => rw [hs] at hq; exact hq.elim
    | some p =>
      obtain ⟨v, h1⟩ := p
      rw [hs] at hq
      exact WpO.op hs hq
theorem WpO_guard {dst : Option Nat} {op : AOp} {g : Nat} {want : Bool} {r : List AOper} {en : Env} {h : Heap} {Q : Env → Heap → Prop} :
    WpO S base (⟨dst, op, some (g, want), []⟩ :: r) en h Q ↔ (match gOk (en g) want with
      | some true => WpO S base (⟨dst, op, none, []⟩ :: r) en h Q
      | some false => WpO S base r (en.put dst (.tup [])) h Q
      | none => False) := by
  constructor
  · rintro ⟨n, en', h', e, q⟩
    rw [evOps_cons, Option.bind_eq_some_iff] at e
    obtain ⟨p, e1, e2⟩ := e
    cases hen : gOk (en g) want with
    | none => simp [evVal, hen] at e1
    | some t =>
      simp only [evVal, hen] at e1
      cases t with
      | true =>
        refine ⟨n, en', h', ?_, q⟩
        rw [evOps_cons]
        have : evVal (evCall S.X S.F n) base ⟨dst, op, none, []⟩ en h = some p := e1
        rw [this]
        exact e2
      | false =>
        injection e1 with e1
        subst e1
        exact ⟨n, en', h', e2, q⟩
  · intro hq
    cases hen : gOk (en g) want with
    | none => rw [hen] at hq; exact hq.elim
    | some t =>
      rw [hen] at hq
      cases t with
      | true =>
        obtain ⟨n, en', h', e, q⟩ := hq
        refine ⟨n, en', h', ?_, q⟩
        rw [evOps_cons] at e ⊢
        have : evVal (evCall S.X S.F n) base ⟨dst, op, some (g, want), []⟩ en h = evVal (evCall S.X S.F n) base ⟨dst, op, none, []⟩ en h := by
          simp only [evVal, hen]
          rfl
        rw [this]
        exact e
      | false =>
        obtain ⟨n, en', h', e, q⟩ := hq
        refine ⟨n, en', h', ?_, q⟩
        rw [evOps_cons]
        have : evVal (evCall S.X S.F n) base ⟨dst, op, some (g, want), []⟩ en h = some (.tup [], h) := by
          simp only [evVal, hen]
        rw [this]
        exact e
def callQ (S : Fns) (base : Nat) (t : Option (FuncId × List V)) (h : Heap) (Q : V → Heap → Prop) : Prop :=
  match t with
  | some (k, vs) => WpF S base k vs h Q
  | none => False
@[simp] theorem callQ_some (S : Fns) (base : Nat) (k : FuncId) (vs : List V) (h : Heap) (Q : V → Heap → Prop) : callQ S base (some (k, vs)) h Q = WpF S base k vs h Q := rfl
theorem WpO_call {dst : Option Nat} {f : Opd} {args : List Opd} {r : List AOper} {en : Env} {h : Heap} {Q : Env → Heap → Prop} :
    WpO S base (⟨dst, .call f args, none, []⟩ :: r) en h Q ↔ callQ S base (zr (f.get en) (zh en args)) h fun v h1 => WpO S base r (en.put dst v) h1 Q := by
  constructor
  · rintro ⟨n, en', h', e, q⟩
    rw [evOps_cons, Option.bind_eq_some_iff] at e
    obtain ⟨⟨v, h1⟩, e1, e2⟩ := e
    have e1' := (evOper_inv (o := ⟨dst, .call f args, none, []⟩) (show evOper (evCall S.X S.F n) base en h ⟨dst, .call f args, none, []⟩ = some (v, h1) from e1)).2
    simp only [evOp] at e1'
    cases ht : zr (f.get en) (zh en args) with
    | none => rw [ht] at e1'; simp at e1'
    | some p =>
      obtain ⟨k, vs⟩ := p
      rw [ht] at e1'
      exact ⟨n, v, h1, e1', n, en', h', e2, q⟩
  · intro hq
    cases ht : zr (f.get en) (zh en args) with
    | none => rw [ht] at hq; exact hq.elim
    | some p =>
      obtain ⟨k, vs⟩ := p
      rw [ht] at hq
      exact WpO.call ht hq
theorem WpC_cond {c : Opd} {a b : ACode} {en : Env} {h : Heap} {Q : Ex → Env → Heap → Prop} (hw : boolQ (c.get en) fun t => if t then WpC S base a en h Q else WpC S base b en h Q) : WpC S base (.cond c a b) en h Q := by
  cases hen : c.get en with
  | sc x =>
    cases x with
    | bool t => rw [hen] at hw; exact WpC.cond hen hw
    | _ => rw [hen] at hw; exact hw.elim
  | _ => rw [hen] at hw; exact hw.elim
end
end
section
open Go.RowKit (Below)
structure RowLoc where
  e : Nat
  sz : Nat
  blk : Nat
  cp : Nat
structure Tie where
  fz : Nat → Nat → Option Value
  n : Nat
  bx : Nat → Nat
  rw : Nat → Option RowLoc
  b0 : Nat
  kp : Nat → Bool := fun _ => false
mutual
def RepV (G : Tie) : V → Value → Prop
  | .undef, _ => True
  | .sc v, r => r = v ∧ v.oneCell' = true
  | .agg cs, r => ∃ rs : Array Value, r = .agg rs ∧ RepL G cs rs.toList
  | .tup cs, r => ∃ rs : Array Value, r = .tuple rs ∧ RepL G cs rs.toList
  | .slc ex sz rows, r => ∃ a cap, r = .slice a rows.length cap ∧ rows.length ≤ cap ∧ (ex.isFull = true → cap = rows.length) ∧ (rows.all fun l => l.all ground) = true ∧
      ∃ b o, (rows ≠ [] → a = some ⟨b, o, none⟩) ∧ (ex = .lit → rows ≠ [] → G.b0 ≤ b) ∧ RepRows G sz b o rows
  | .hsl b e off len, r => b < G.n ∧ ∃ a cap, r = .slice (some a) len cap ∧ ∀ L, G.rw b = some L → e ≤ L.e ∧ (e = L.e → len ≤ cap ∧ off + cap ≤ L.cp ∧ (cap ≠ 0 → a = ⟨L.blk, off * L.sz, none⟩))
  | .ptr b off, r => b < G.n ∧ r = .pointer (some ⟨G.bx b, off, none⟩)
  | .rptr b e i off, r => b < G.n ∧ ∃ a, r = .pointer (some a) ∧ ∀ L, G.rw b = some L → e ≤ L.e ∧ (e = L.e → a = ⟨L.blk, i * L.sz + off, none⟩)
  | .eptr cs off, r => ∃ b o, r = .pointer (some ⟨b, o + off, none⟩) ∧ cs.all ground = true ∧ RepF G b o cs
  | .fn f a c, r => ∃ ra rc : Array Value, r = .func f ra rc ∧ RepL G a ra.toList ∧ RepL G c rc.toList
  | .ifc t v, r => ∃ rv, r = .iface t rv ∧ RepV G v rv
  | .mp b, r => b < G.n ∧ r = .map (some (G.bx b))
  | .opq, r => r.oneCell' = true
def RepL (G : Tie) : List V → List Value → Prop
  | [], rs => rs = []
  | c :: cs, rs => ∃ r rest, rs = r :: rest ∧ RepV G c r ∧ RepL G cs rest
def RepF (G : Tie) (b : Nat) : Nat → List V → Prop
  | _, [] => True
  | o, c :: cs => (∃ v, G.fz b o = some v ∧ RepV G c v) ∧ RepF G b (o + 1) cs
def RepRows (G : Tie) (sz b : Nat) : Nat → List (List V) → Prop
  | _, [] => True
  | o, cs :: r => cs.length = sz ∧ RepF G b o cs ∧ RepRows G sz b (o + sz) r
end
structure Ext0 (G G' : Tie) : Prop where
  fz : ∀ b o v, G.fz b o = some v → G'.fz b o = some v
  n : G.n ≤ G'.n
  bx : ∀ b, b < G.n → G'.bx b = G.bx b
  rw : ∀ b, b < G.n → ∀ L', G'.rw b = some L' → ∃ L, G.rw b = some L ∧ L.e ≤ L'.e ∧ (L.e = L'.e → L' = L)
  b0 : G'.b0 = G.b0
structure Ext (G G' : Tie) : Prop extends Ext0 G G' where
  kp : G'.kp = G.kp
theorem Ext.refl (G : Tie) : Ext G G := ⟨⟨fun _ _ _ h => h, Nat.le_refl _, fun _ _ => rfl, fun _ _ L h => ⟨L, h, Nat.le_refl _, fun _ => rfl⟩, rfl⟩, rfl⟩
theorem Ext0.trans {A B C : Tie} (h : Ext0 A B) (k : Ext0 B C) : Ext0 A C where
  fz b o v hv := k.fz _ _ _ (h.fz _ _ _ hv)
  n := Nat.le_trans h.n k.n
  bx b hb := (k.bx b (Nat.lt_of_lt_of_le hb h.n)).trans (h.bx b hb)
  rw b hb L' hL := by
    obtain ⟨L1, h1, l1, e1⟩ := k.rw b (Nat.lt_of_lt_of_le hb h.n) L' hL
    obtain ⟨L2, h2, l2, e2⟩ := h.rw b hb L1 h1
    refine ⟨L2, h2, Nat.le_trans l2 l1, fun e => ?_⟩
    have hA : L1.e = L'.e := by omega
    have hB : L2.e = L1.e := by omega
    rw [e1 hA, e2 hB]
  b0 := k.b0.trans h.b0
theorem Ext.trans {A B C : Tie} (h : Ext A B) (k : Ext B C) : Ext A C := ⟨h.toExt0.trans k.toExt0, k.kp.trans h.kp⟩
mutual
theorem RepV.ext0 {G G' : Tie} (x : Ext0 G G') : ∀ {v : V} {r : Value}, RepV G v r → RepV G' v r
  | .undef, _, _ => by simp [RepV]
  | .sc v, r, h => by simpa [RepV] using h
  | .agg cs, r, h => by
    simp only [RepV] at h ⊢
    obtain ⟨rs, e, h⟩ := h
    exact ⟨rs, e, RepL.ext0 x h⟩
  | .tup cs, r, h => by
    simp only [RepV] at h ⊢
    obtain ⟨rs, e, h⟩ := h
    exact ⟨rs, e, RepL.ext0 x h⟩
  | .slc ex sz rows, r, h => by
    simp only [RepV] at h ⊢
    obtain ⟨a, cap, e, hl, he, hg, b, o, ha, hb, h⟩ := h
    exact ⟨a, cap, e, hl, he, hg, b, o, ha, by rw [x.b0]; exact hb, RepRows.ext0 x h⟩
  | .hsl b e off len, r, h => by
    simp only [RepV] at h ⊢
    obtain ⟨hb, a, cap, hr, h⟩ := h
    refine ⟨Nat.lt_of_lt_of_le hb x.n, a, cap, hr, fun L' hL' => ?_⟩
    obtain ⟨L, hL, hle, heq⟩ := x.rw b hb L' hL'
    obtain ⟨h1, h2⟩ := h L hL
    refine ⟨Nat.le_trans h1 hle, fun he => ?_⟩
    have : L.e = L'.e := by omega
    rw [heq this]
    exact h2 (by omega)
  | .ptr b off, r, h => by
    simp only [RepV] at h ⊢
    exact ⟨Nat.lt_of_lt_of_le h.1 x.n, by rw [x.bx b h.1]; exact h.2⟩
  | .rptr b e i off, r, h => by
    simp only [RepV] at h ⊢
    obtain ⟨hb, a, hr, h⟩ := h
    refine ⟨Nat.lt_of_lt_of_le hb x.n, a, hr, fun L' hL' => ?_⟩
    obtain ⟨L, hL, hle, heq⟩ := x.rw b hb L' hL'
    obtain ⟨h1, h2⟩ := h L hL
    refine ⟨Nat.le_trans h1 hle, fun he => ?_⟩
    have : L.e = L'.e := by omega
    rw [heq this]
    exact h2 (by omega)
  | .eptr cs off, r, h => by
    simp only [RepV] at h ⊢
    obtain ⟨b, o, hr, hg, h⟩ := h
    exact ⟨b, o, hr, hg, RepF.ext0 x h⟩
  | .fn f a c, r, h => by
    simp only [RepV] at h ⊢
    obtain ⟨ra, rc, hr, h1, h2⟩ := h
    exact ⟨ra, rc, hr, RepL.ext0 x h1, RepL.ext0 x h2⟩
  | .ifc t v, r, h => by
    simp only [RepV] at h ⊢
    obtain ⟨rv, hr, h⟩ := h
    exact ⟨rv, hr, RepV.ext0 x h⟩
  | .mp b, r, h => by
    simp only [RepV] at h ⊢
    exact ⟨Nat.lt_of_lt_of_le h.1 x.n, by rw [x.bx b h.1]; exact h.2⟩
  | .opq, r, h => by
    simp only [RepV] at h ⊢
    exact h
theorem RepL.ext0 {G G' : Tie} (x : Ext0 G G') : ∀ {v : List V} {r : List Value}, RepL G v r → RepL G' v r
  | [], r, h => by simpa [RepL] using h
  | c :: cs, r, h => by
    simp only [RepL] at h ⊢
    obtain ⟨a, rest, e, h1, h2⟩ := h
    exact ⟨a, rest, e, RepV.ext0 x h1, RepL.ext0 x h2⟩
theorem RepF.ext0 {G G' : Tie} (x : Ext0 G G') : ∀ {b o : Nat} {v : List V}, RepF G b o v → RepF G' b o v
  | _, _, [], _ => by simp [RepF]
  | b, o, c :: cs, h => by
    simp only [RepF] at h ⊢
    obtain ⟨⟨v, h1, h2⟩, h3⟩ := h
    exact ⟨⟨v, x.fz _ _ _ h1, RepV.ext0 x h2⟩, RepF.ext0 x h3⟩
theorem RepRows.ext0 {G G' : Tie} (x : Ext0 G G') : ∀ {sz b o : Nat} {v : List (List V)}, RepRows G sz b o v → RepRows G' sz b o v
  | _, _, _, [], _ => by simp [RepRows]
  | sz, b, o, c :: cs, h => by
    simp only [RepRows] at h ⊢
    exact ⟨h.1, RepF.ext0 x h.2.1, RepRows.ext0 x h.2.2⟩
end
theorem RepV.ext {G G' : Tie} (x : Ext G G') {v : V} {r : Value} (h : RepV G v r) : RepV G' v r := h.ext0 x.toExt0
theorem RepL.ext {G G' : Tie} (x : Ext G G') {v : List V} {r : List Value} (h : RepL G v r) : RepL G' v r := RepL.ext0 x.toExt0 h
theorem RepF.ext {G G' : Tie} (x : Ext G G') {b o : Nat} {v : List V} (h : RepF G b o v) : RepF G' b o v := RepF.ext0 x.toExt0 h
theorem RepRows.ext {G G' : Tie} (x : Ext G G') {sz b o : Nat} {v : List (List V)} (h : RepRows G sz b o v) : RepRows G' sz b o v := RepRows.ext0 x.toExt0 h
theorem RepL.length {G : Tie} : ∀ {cs : List V} {rs : List Value}, RepL G cs rs → rs.length = cs.length
  | [], _, h => by simp only [RepL] at h; simp [h]
  | _ :: cs, _, h => by
    simp only [RepL] at h
    obtain ⟨a, rest, rfl, _, h2⟩ := h
    simp [RepL.length h2]
theorem RepL.get {G : Tie} : ∀ {cs : List V} {rs : List Value}, RepL G cs rs → ∀ {i : Nat} {c : V}, cs[i]? = some c → ∃ r, rs[i]? = some r ∧ RepV G c r
  | [], _, _, i, c, e => by simp at e
  | x :: cs, _, h, i, c, e => by
    simp only [RepL] at h
    obtain ⟨a, rest, rfl, h1, h2⟩ := h
    cases i with
    | zero => simp at e; subst e; exact ⟨a, by simp, h1⟩
    | succ i => simpa using RepL.get h2 (i := i) (by simpa using e)
theorem RepL.of_get {G : Tie} : ∀ {cs : List V} {rs : List Value}, rs.length = cs.length → (∀ (i : Nat) (c : V), cs[i]? = some c → ∃ r, rs[i]? = some r ∧ RepV G c r) → RepL G cs rs
  | [], rs, hl, _ => by simp only [RepL]; simpa using hl
  | c :: cs, [], hl, _ => by simp at hl
  | c :: cs, r :: rs, hl, h => by
    simp only [RepL]
    refine ⟨r, rs, rfl, ?_, RepL.of_get (by simpa using hl) fun i c' e => ?_⟩
    · obtain ⟨r', e', h'⟩ := h 0 c (by simp)
      simp at e'
      exact e' ▸ h'
    · simpa using h (i + 1) c' (by simpa using e)
theorem RepL.append {G : Tie} {cs ds : List V} {rs ss : List Value} (h : RepL G cs rs) (k : RepL G ds ss) : RepL G (cs ++ ds) (rs ++ ss) := by
  induction cs generalizing rs with
  | nil => simp only [RepL] at h; subst h; simpa using k
  | cons c cs ih =>
    simp only [RepL] at h
    obtain ⟨a, rest, rfl, h1, h2⟩ := h
    simp only [List.cons_append, RepL]
    exact ⟨a, rest ++ ss, rfl, h1, ih h2⟩
theorem RepL.take {G : Tie} {cs : List V} {rs : List Value} (h : RepL G cs rs) (k : Nat) : RepL G (cs.take k) (rs.take k) :=
  RepL.of_get (by simp [h.length]) fun i c e => by
    rw [List.getElem?_take] at e ⊢
    split at e
    · rename_i hi
      rw [if_pos hi]
      exact h.get e
    · simp at e
theorem RepL.drop {G : Tie} {cs : List V} {rs : List Value} (h : RepL G cs rs) (k : Nat) : RepL G (cs.drop k) (rs.drop k) :=
  RepL.of_get (by simp [h.length]) fun i c e => by
    rw [List.getElem?_drop] at e ⊢
    exact h.get e
theorem RepF.get {G : Tie} : ∀ {b o : Nat} {cs : List V}, RepF G b o cs → ∀ {i : Nat} {c : V}, cs[i]? = some c → ∃ r, G.fz b (o + i) = some r ∧ RepV G c r
  | _, _, [], _, i, c, e => by simp at e
  | b, o, x :: cs, h, i, c, e => by
    simp only [RepF] at h
    cases i with
    | zero => simp at e; subst e; exact h.1
    | succ i =>
      have := RepF.get h.2 (i := i) (by simpa using e)
      rwa [show o + 1 + i = o + (i + 1) by omega] at this
theorem RepF.of_get {G : Tie} : ∀ {b o : Nat} {cs : List V}, (∀ (i : Nat) (c : V), cs[i]? = some c → ∃ r, G.fz b (o + i) = some r ∧ RepV G c r) → RepF G b o cs
  | _, _, [], _ => by simp [RepF]
  | b, o, x :: cs, h => by
    simp only [RepF]
    refine ⟨by simpa using h 0 x (by simp), RepF.of_get fun i c e => ?_⟩
    have := h (i + 1) c (by simpa using e)
    rwa [show o + (i + 1) = o + 1 + i by omega] at this
theorem RepRows.get {G : Tie} {sz b : Nat} : ∀ {o : Nat} {rows : List (List V)}, RepRows G sz b o rows → ∀ {i : Nat} {cs : List V}, rows[i]? = some cs → cs.length = sz ∧ RepF G b (o + i * sz) cs
  | _, [], _, i, c, e => by simp at e
  | o, x :: rows, h, i, cs, e => by
    simp only [RepRows] at h
    cases i with
    | zero => simp at e; subst e; simpa using ⟨h.1, h.2.1⟩
    | succ i =>
      have := RepRows.get h.2.2 (i := i) (by simpa using e)
      rwa [show o + sz + i * sz = o + (i + 1) * sz by rw [Nat.add_mul]; omega] at this
theorem RepRows.of_get {G : Tie} {sz b : Nat} : ∀ {o : Nat} {rows : List (List V)}, (∀ (i : Nat) (cs : List V), rows[i]? = some cs → cs.length = sz ∧ RepF G b (o + i * sz) cs) → RepRows G sz b o rows
  | _, [], _ => by simp [RepRows]
  | o, x :: rows, h => by
    simp only [RepRows]
    have h0 := h 0 x (by simp)
    refine ⟨h0.1, by simpa using h0.2, RepRows.of_get fun i cs e => ?_⟩
    have := h (i + 1) cs (by simpa using e)
    rwa [show o + (i + 1) * sz = o + sz + i * sz by rw [Nat.add_mul]; omega] at this
theorem RepV.one {G : Tie} {v : V} {r : Value} (h : RepV G v r) (h1 : zm v = true) : r.oneCell' = true := by
  cases v <;> simp only [zm, RepV, Bool.false_eq_true] at h h1
  · exact h.1 ▸ h.2
  · obtain ⟨a, cap, rfl, _⟩ := h; rfl
  · obtain ⟨_, a, cap, rfl, _⟩ := h; rfl
  · obtain ⟨_, rfl⟩ := h; rfl
  · obtain ⟨_, a, rfl, _⟩ := h; rfl
  · obtain ⟨b, o, rfl, _⟩ := h; rfl
  · obtain ⟨ra, rc, rfl, _⟩ := h; rfl
  · obtain ⟨rv, rfl, _⟩ := h; rfl
  · obtain ⟨_, rfl⟩ := h; rfl
  · exact h
theorem RepV.cells {G : Tie} {v : V} {r : Value} (h : RepV G v r) (hu : v ≠ .undef) : RepL G v.cells r.cells.toList := by
  cases v <;> simp only [RepV, V.cells] at h ⊢
  · exact absurd rfl hu
  · obtain ⟨rfl, h1⟩ := h
    cases r <;> simp [Value.oneCell'] at h1 <;> simp [Value.cells, RepL, RepV, Value.oneCell']
  · obtain ⟨rs, rfl, h⟩ := h; simpa [Value.cells] using h
  · obtain ⟨rs, rfl, h⟩ := h; simp [Value.cells, RepL, RepV]; exact h
  · obtain ⟨a, cap, rfl, h⟩ := h
    simp only [Value.cells, RepL]
    exact ⟨_, [], rfl, by simp only [RepV]; exact ⟨a, cap, rfl, h⟩, rfl⟩
  · obtain ⟨hb, a, cap, rfl, h⟩ := h
    simp only [Value.cells, RepL]
    exact ⟨_, [], rfl, by simp only [RepV]; exact ⟨hb, a, cap, rfl, h⟩, rfl⟩
  · obtain ⟨hb, rfl⟩ := h
    simp only [Value.cells, RepL]
    exact ⟨_, [], rfl, by simp [RepV, hb], rfl⟩
  · obtain ⟨hb, a, rfl, h⟩ := h
    simp only [Value.cells, RepL]
    exact ⟨_, [], rfl, by simp only [RepV]; exact ⟨hb, a, rfl, h⟩, rfl⟩
  · obtain ⟨b, o, rfl, h⟩ := h
    simp only [Value.cells, RepL]
    exact ⟨_, [], rfl, by simp only [RepV]; exact ⟨b, o, rfl, h⟩, rfl⟩
  · obtain ⟨ra, rc, rfl, h⟩ := h
    simp only [Value.cells, RepL]
    exact ⟨_, [], rfl, by simp only [RepV]; exact ⟨ra, rc, rfl, h⟩, rfl⟩
  · obtain ⟨rv, rfl, h⟩ := h
    simp only [Value.cells, RepL]
    exact ⟨_, [], rfl, by simp only [RepV]; exact ⟨rv, rfl, h⟩, rfl⟩
  · obtain ⟨hb, rfl⟩ := h
    simp only [Value.cells, RepL]
    exact ⟨_, [], rfl, by simp [RepV, hb], rfl⟩
  · cases r <;> simp [Value.oneCell'] at h <;> simp [Value.cells, RepL, RepV, Value.oneCell']
def Tie.real (G : Tie) (h : Heap) (b : Nat) : Option Nat :=
  match h[b]? with
  | some (.box ..) => some (G.bx b)
  | some (.row ..) => (G.rw b).map (·.blk)
  | some (.mmap _) => some (G.bx b)
  | _ => none
def RepM (G : Tie) : List (Value × V) → List MapEntry → Prop
  | [], l => l = []
  | e :: es, l => ∃ x r, l = x :: r ∧ x.key = e.1 ∧ RepV G e.2 x.val ∧ RepM G es r
theorem RepM.ext0 {G G' : Tie} (x : Ext0 G G') : ∀ {es : List (Value × V)} {l : List MapEntry}, RepM G es l → RepM G' es l
  | [], l, h => h
  | e :: es, l, h => by
    simp only [RepM] at h ⊢
    obtain ⟨y, r, e1, h1, h2, h3⟩ := h
    exact ⟨y, r, e1, h1, h2.ext0 x, RepM.ext0 x h3⟩
theorem RepM.ext {G G' : Tie} (x : Ext G G') {es : List (Value × V)} {l : List MapEntry} (h : RepM G es l) : RepM G' es l := RepM.ext0 x.toExt0 h
theorem RepM.length {G : Tie} : ∀ {es : List (Value × V)} {l : List MapEntry}, RepM G es l → l.length = es.length
  | [], l, h => by simp only [RepM] at h; simp [h]
  | e :: es, l, h => by
    simp only [RepM] at h
    obtain ⟨y, r, rfl, h1, h2, h3⟩ := h
    simp [h3.length]
theorem RepM.snoc {G : Tie} {e : Value × V} {x : MapEntry} (hk : x.key = e.1) (hv : RepV G e.2 x.val) : ∀ {es : List (Value × V)} {l : List MapEntry}, RepM G es l → RepM G (es ++ [e]) (l ++ [x])
  | [], l, h => by
    simp only [RepM] at h
    subst h
    exact ⟨x, [], rfl, hk, hv, rfl⟩
  | e' :: es, l, h => by
    simp only [RepM] at h
    obtain ⟨y, r, rfl, h1, h2, h3⟩ := h
    exact ⟨y, r ++ [x], rfl, h1, h2, RepM.snoc hk hv h3⟩
theorem RepM.set {G : Tie} {e : Value × V} {x : MapEntry} (hk : x.key = e.1) (hv : RepV G e.2 x.val) : ∀ {es : List (Value × V)} {l : List MapEntry} {i : Nat}, RepM G es l → RepM G (es.set i e) (l.set i x)
  | [], l, i, h => by simp only [RepM] at h; subst h; simp [RepM]
  | e' :: es, l, i, h => by
    simp only [RepM] at h
    obtain ⟨y, r, rfl, h1, h2, h3⟩ := h
    cases i with
    | zero => exact ⟨x, r, rfl, hk, hv, h3⟩
    | succ i => exact ⟨y, r.set i x, rfl, h1, h2, RepM.set hk hv h3⟩
theorem RepM.mem {G : Tie} : ∀ {es : List (Value × V)} {l : List MapEntry} {e : Value × V}, RepM G es l → e ∈ es → ∃ x ∈ l, x.key = e.1 ∧ RepV G e.2 x.val
  | [], l, e, h, he => by simp at he
  | e' :: es, l, e, h, he => by
    simp only [RepM] at h
    obtain ⟨y, r, rfl, h1, h2, h3⟩ := h
    rcases List.mem_cons.1 he with rfl | he
    · exact ⟨y, by simp, h1, h2⟩
    · obtain ⟨x, hx, q1, q2⟩ := h3.mem he
      exact ⟨x, by simp [hx], q1, q2⟩
def RepBlk (G : Tie) (sz : Nat) (rs : Array Value) (rows : List (List V)) : Prop :=
  ∀ i cs, rows[i]? = some cs → cs.length = sz ∧ cs.all zm = true ∧ ∀ j c, cs[j]? = some c → ∃ v, rs[i * sz + j]? = some v ∧ RepV G c v
structure Rel (G : Tie) (h : Heap) (w : World) : Prop where
  n : G.n = h.length
  fz : ∀ b o v, G.fz b o = some v → w.cell? ⟨b, o, none⟩ = some v
  box : ∀ b t cs, h[b]? = some (.box t cs) → cs.all zm = true ∧ ∃ rs, w.heap[G.bx b]? = some (.cells rs t (0, 0)) ∧ RepL G cs rs.toList
  row : ∀ b t sz e rows, h[b]? = some (.row t sz e rows) → 0 < sz ∧ ∃ L rs, G.rw b = some L ∧ L.e = e ∧ L.sz = sz ∧ rows.length ≤ L.cp ∧
    w.heap[L.blk]? = some (.cells rs t (0, 0)) ∧ rs.size = L.cp * sz ∧ RepBlk G sz rs rows
  mp : ∀ b es, h[b]? = some (.mmap es) → ∃ l clock, w.heap[G.bx b]? = some (.map l clock) ∧ RepM G es l.toList
  low : ∀ b k, G.real h b = some k → G.b0 ≤ k ∧ ∀ o, G.fz k o = none
  inj : ∀ b b' k, G.real h b = some k → G.real h b' = some k → b = b'
  hb0 : G.b0 ≤ w.heap.size
  kp : ∀ k, G.kp k = true → k < w.heap.size ∧ (∀ o, G.fz k o = none) ∧ ∀ b, G.real h b ≠ some k
theorem RepBlk.ext0 {G G' : Tie} (x : Ext0 G G') {sz : Nat} {rs : Array Value} {rows : List (List V)} (h : RepBlk G sz rs rows) : RepBlk G' sz rs rows :=
  fun i cs e => let ⟨h1, h2, h3⟩ := h i cs e; ⟨h1, h2, fun j c ec => let ⟨v, hv, hr⟩ := h3 j c ec; ⟨v, hv, hr.ext0 x⟩⟩
theorem RepBlk.ext {G G' : Tie} (x : Ext G G') {sz : Nat} {rs : Array Value} {rows : List (List V)} (h : RepBlk G sz rs rows) : RepBlk G' sz rs rows := h.ext0 x.toExt0
theorem Rel.lt {G : Tie} {h : Heap} {w : World} (R : Rel G h w) {b k : Nat} (hk : G.real h b = some k) : k < w.heap.size := by
  unfold Tie.real at hk
  split at hk
  · rename_i t cs e
    obtain ⟨_, rs, hw, _⟩ := R.box b t cs e
    injection hk with hk
    subst hk
    exact (Array.getElem?_eq_some_iff.1 hw).1
  · rename_i t sz e rows eq
    obtain ⟨_, L, rs, hL, _, _, _, hw, _⟩ := R.row b t sz e rows eq
    rw [hL] at hk
    simp at hk
    subst hk
    exact (Array.getElem?_eq_some_iff.1 hw).1
  · rename_i es eq
    obtain ⟨l, clock, hw, _⟩ := R.mp b es eq
    injection hk with hk
    subst hk
    exact (Array.getElem?_eq_some_iff.1 hw).1
  · simp at hk
theorem Rel.kp_of {G : Tie} {h : Heap} {w : World} (R : Rel G h w) {b k : Nat} (hk : G.real h b = some k) : G.kp k = false := by
  cases hc : G.kp k with
  | false => rfl
  | true => exact absurd hk ((R.kp k hc).2.2 b)
theorem Rel.kp_new {G : Tie} {h : Heap} {w : World} (R : Rel G h w) : G.kp w.heap.size = false := by
  cases hc : G.kp w.heap.size with
  | false => rfl
  | true => exact absurd (R.kp _ hc).1 (Nat.lt_irrefl _)
structure Bel (G : Tie) (w w' : World) : Prop where
  bel : Below G.b0 w w'
  kept : ∀ k, G.kp k = true → w'.heap[k]? = w.heap[k]?
theorem Bel.refl (G : Tie) (w : World) : Bel G w w := ⟨Below.refl _ _, fun _ _ => rfl⟩
theorem Bel.trans {G : Tie} {w w' w'' : World} (h : Bel G w w') (k : Bel G w' w'') : Bel G w w'' := ⟨h.bel.trans k.bel, fun c hc => (k.kept c hc).trans (h.kept c hc)⟩
theorem Rel.world {G : Tie} {h : Heap} {w w' : World} (R : Rel G h w) (hs : w.heap.size ≤ w'.heap.size) (hw : ∀ k, k < w.heap.size → w'.heap[k]? = w.heap[k]?) : Rel G h w' where
  n := R.n
  fz b o v hv := by
    have := R.fz b o v hv
    have hb : b < w.heap.size := by
      unfold World.cell? at this
      rcases Nat.lt_or_ge b w.heap.size with hb | hb
      · exact hb
      · simp [Array.getElem?_eq_none hb] at this
    unfold World.cell? at this ⊢
    rwa [hw b hb]
  box b t cs e := by
    obtain ⟨h1, rs, h2, h3⟩ := R.box b t cs e
    exact ⟨h1, rs, by rw [hw _ (Array.getElem?_eq_some_iff.1 h2).1]; exact h2, h3⟩
  row b t sz e rows eq := by
    obtain ⟨h0, L, rs, h1, h2, h3, h4, h5, h6⟩ := R.row b t sz e rows eq
    exact ⟨h0, L, rs, h1, h2, h3, h4, by rw [hw _ (Array.getElem?_eq_some_iff.1 h5).1]; exact h5, h6⟩
  mp b es e := by
    obtain ⟨l, clock, h1, h2⟩ := R.mp b es e
    exact ⟨l, clock, by rw [hw _ (Array.getElem?_eq_some_iff.1 h1).1]; exact h1, h2⟩
  low := R.low
  inj := R.inj
  hb0 := Nat.le_trans R.hb0 hs
  kp k hk := let ⟨h1, h2⟩ := R.kp k hk; ⟨Nat.lt_of_lt_of_le h1 hs, h2⟩
def RepEnv (G : Tie) (en : Env) (tmps : Array Value) : Prop := ∀ t, RepV G (en t) (tmps.getD t undef)
theorem RepEnv.ext0 {G G' : Tie} (x : Ext0 G G') {en : Env} {tmps : Array Value} (h : RepEnv G en tmps) : RepEnv G' en tmps := fun t => (h t).ext0 x
theorem RepEnv.ext {G G' : Tie} (x : Ext G G') {en : Env} {tmps : Array Value} (h : RepEnv G en tmps) : RepEnv G' en tmps := fun t => (h t).ext x
theorem RepEnv.put {G : Tie} {en : Env} {tmps : Array Value} (h : RepEnv G en tmps) {t : Nat} (ht : t < tmps.size) {v : V} {r : Value} (hv : RepV G v r) :
    RepEnv G (en.upd t v) (tmps.setIfInBounds t r) := by
  intro x
  unfold Env.upd
  by_cases e : x = t
  · subst e
    rw [if_pos rfl]
    simpa [Array.getD, ht] using hv
  · rw [if_neg e]
    have := h x
    simp only [Array.getD] at this ⊢
    split
    · rename_i hx
      have hx' : x < tmps.size := by simpa using hx
      rw [dif_pos hx'] at this
      simp only [Array.getInternal_eq_getElem] at this ⊢
      rw [Array.getElem_setIfInBounds_ne]
      · exact this
      · omega
    · rename_i hx
      rw [dif_neg (by simpa using hx)] at this
      exact this
end
end Go.Am
