/- Am: regions, control, calls: the machine does what the abstract run does. -/
import Derived.Test.YtefbdhbfhgapeaaDoorAmRun4
namespace Go.Am
open Go.RowKit (Below)

/-- What a call of a function number comes to. -/
def CallsF (P : Program) (f : FuncId) (args : Array Value) (w : World) (R : Value → World → Prop) : Prop :=
  match (callFunc f args).run P w with
  | .ok (.value v) w' => R v w'
  | .ok (.enter g as) w' => Calls P g as w' fun
      | .returned v, w'' => R v w''
      | _, _ => False
  | .ok (.row row as) w' => Rows P row as w' R
  | _ => False

/-- Abstract memory may be cut at 'base': nothing below leads above. -/
def HeapOk (base : Nat) (h : Heap) : Prop :=
  ∀ b, b < base → (∀ t cs, h[b]? = some (.box t cs) → refsLts base cs = true) ∧ (∀ t sz e rows, h[b]? = some (.row t sz e rows) → ∀ r ∈ rows, refsLts base r = true)

/-- What a call does to abstract memory. -/
def Grow (base : Nat) (h h' : Heap) : Prop := h.length ≤ h'.length ∧ ∀ n, n ≤ base → n ≤ h.length → HeapOk n h → HeapOk n h'

theorem Grow.refl (base : Nat) (h : Heap) : Grow base h h := ⟨Nat.le_refl _, fun _ _ _ h => h⟩
theorem Grow.trans {base : Nat} {a b c : Heap} (h : Grow base a b) (k : Grow base b c) : Grow base a c :=
  ⟨Nat.le_trans h.1 k.1, fun n h1 h2 ho => k.2 n h1 (Nat.le_trans h2 h.1) (h.2 n h1 h2 ho)⟩

/-- What the machine has come to, behind an abstract step from G, w to h'. -/
structure Reach (G : Tie) (w : World) (h' : Heap) (w' : World) (G' : Tie) : Prop where
  ext : Ext G G'
  rel : Rel G' h' w'
  below : Below G.b0 w w'

theorem Reach.refl {G : Tie} {h : Heap} {w : World} (R : Rel G h w) : Reach G w h w G := ⟨Ext.refl G, R, Below.refl _ _⟩
theorem Reach.trans {G G' G'' : Tie} {h h' : Heap} {w w' w'' : World} (a : Reach G w h w' G') (b : Reach G' w' h' w'' G'') : Reach G w h' w'' G'' :=
  ⟨a.ext.trans b.ext, b.rel, a.below.trans (by have := b.below; rwa [a.ext.b0] at this)⟩

/-- The calls that an abstract run may take. -/
structure CallOk (P : Program) (gl : Nat → Option (List V)) (call : CallF) : Prop where
  grow : ∀ base f args h r h', call base f args h = some (r, h') → base ≤ h.length → Grow base h h'
  runs : ∀ base f args h r h', call base f args h = some (r, h') → base ≤ h.length → ∀ G w vals, GlobOk G gl → Rel G h w → RepL G args vals.toList →
    CallsF P f vals w fun rv w' => ∃ G', Reach G w h' w' G' ∧ RepV G' r rv

/-! ### Memory that grows -/

theorem refsLts_all {n : Nat} : ∀ {l : List V}, refsLts n l = true ↔ ∀ v ∈ l, refsLt n v = true
  | [] => by simp [refsLts]
  | v :: r => by simp [refsLts, refsLts_all]

mutual
theorem refsLt_mono {n m : Nat} (h : n ≤ m) : ∀ {v : V}, refsLt n v = true → refsLt m v = true
  | .undef, _ => by simp [refsLt]
  | .sc _, _ => by simp [refsLt]
  | .slc .., _ => by simp [refsLt]
  | .eptr .., _ => by simp [refsLt]
  | .ptr .., hv => by simp [refsLt] at hv ⊢; omega
  | .hsl .., hv => by simp [refsLt] at hv ⊢; omega
  | .rptr .., hv => by simp [refsLt] at hv ⊢; omega
  | .mp _, hv => by simp [refsLt] at hv ⊢; omega
  | .fn f a c, hv => by
    simp only [refsLt, Bool.and_eq_true] at hv ⊢
    exact ⟨refsLts_mono h hv.1, refsLts_mono h hv.2⟩
  | .agg cs, hv => by
    simp only [refsLt] at hv ⊢
    exact refsLts_mono h hv
  | .tup cs, hv => by
    simp only [refsLt] at hv ⊢
    exact refsLts_mono h hv
  | .ifc t v, hv => by
    simp only [refsLt] at hv ⊢
    exact refsLt_mono h hv
theorem refsLts_mono {n m : Nat} (h : n ≤ m) : ∀ {l : List V}, refsLts n l = true → refsLts m l = true
  | [], _ => by simp [refsLts]
  | v :: r, hv => by
    simp only [refsLts, Bool.and_eq_true] at hv ⊢
    exact ⟨refsLt_mono h hv.1, refsLts_mono h hv.2⟩
end

theorem HeapOk.app {n : Nat} {h : Heap} (ho : HeapOk n h) (hn : n ≤ h.length) (o : Obj) : HeapOk n (h ++ [o]) := by
  intro b hb
  have : (h ++ [o])[b]? = h[b]? := List.getElem?_append_left (by omega)
  rw [this]
  exact ho b hb

theorem Grow.app (base : Nat) (h : Heap) (o : Obj) : Grow base h (h ++ [o]) := ⟨by simp, fun _ _ h2 ho => ho.app h2 o⟩

theorem HeapOk.setBox {n b : Nat} {t : TypeId} {h : Heap} {cs : List V} (ho : HeapOk n h) (hc : b < n → refsLts n cs = true) : HeapOk n (h.set b (.box t cs)) := by
  intro c hc'
  by_cases e : c = b
  · subst e
    rcases Nat.lt_or_ge c h.length with hl | hl
    · rw [List.getElem?_set_self hl]
      refine ⟨fun _ cs' he => ?_, fun _ _ _ _ he => by simp at he⟩
      simp at he
      obtain ⟨_, rfl⟩ := he
      exact hc hc'
    · rw [List.getElem?_eq_none (by simpa using hl)]
      exact ⟨fun _ _ he => by simp at he, fun _ _ _ _ he => by simp at he⟩
  · rw [List.getElem?_set_ne (by omega)]
    exact ho c hc'

theorem HeapOk.setRow {n b sz e : Nat} {t : TypeId} {h : Heap} {rows : List (List V)} (ho : HeapOk n h) (hc : b < n → ∀ r ∈ rows, refsLts n r = true) : HeapOk n (h.set b (.row t sz e rows)) := by
  intro c hc'
  by_cases ec : c = b
  · subst ec
    rcases Nat.lt_or_ge c h.length with hl | hl
    · rw [List.getElem?_set_self hl]
      refine ⟨fun _ cs' he => by simp at he, fun _ _ _ rows' he => ?_⟩
      simp at he
      obtain ⟨_, _, _, rfl⟩ := he
      exact hc hc'
    · rw [List.getElem?_eq_none (by simpa using hl)]
      exact ⟨fun _ _ he => by simp at he, fun _ _ _ _ he => by simp at he⟩
  · rw [List.getElem?_set_ne (by omega)]
    exact ho c hc'

theorem mayStore_refs {base b n : Nat} {cs : List V} (h : mayStore base b cs = true) (hb : b < n) (hn : n ≤ base) : refsLts n cs = true := by
  unfold mayStore at h
  simp only [Bool.or_eq_true, decide_eq_true_eq] at h
  rcases h with h | h
  · omega
  · exact refsLts_mono (by omega) h

theorem refsLts_append {n : Nat} {a b : List V} (h : refsLts n a = true) (k : refsLts n b = true) : refsLts n (a ++ b) = true := by
  rw [refsLts_all] at *
  intro v hv
  rcases List.mem_append.1 hv with hv | hv
  · exact h v hv
  · exact k v hv

theorem refsLts_sub {n : Nat} {a b : List V} (h : refsLts n a = true) (hs : ∀ v ∈ b, v ∈ a) : refsLts n b = true := by
  rw [refsLts_all] at *
  exact fun v hv => h v (hs v hv)

theorem refsLts_put {n off : Nat} {cs new : List V} (h : refsLts n cs = true) (k : refsLts n new = true) : refsLts n (putCells cs off new) = true := by
  unfold putCells
  exact refsLts_append (refsLts_append (refsLts_sub h fun _ hv => List.mem_of_mem_take hv) k) (refsLts_sub h fun _ hv => List.mem_of_mem_drop hv)

theorem storeV_grow {base n : Nat} {h h' : Heap} {a x : V} (hs : storeV base h n a x = some h') : Grow base h h' := by
  unfold storeV at hs
  split at hs
  case isFalse => simp at hs
  split at hs
  · rename_i b off
    split at hs
    · rename_i cs eq
      split at hs
      · rename_i hc
        injection hs with hs
        subst hs
        exact ⟨by simp, fun m h1 h2 ho => ho.setBox fun hb => refsLts_put ((ho b hb).1 _ cs eq) (mayStore_refs hc.2 hb h1)⟩
      · simp at hs
    · simp at hs
  · rename_i b e i off
    split at hs
    · rename_i ty sz e' rows eq
      split at hs
      · split at hs
        · rename_i cs hi
          split at hs
          · rename_i hc
            injection hs with hs
            subst hs
            refine ⟨by simp, fun m h1 h2 ho => ho.setRow fun hb r hr => ?_⟩
            rcases List.mem_or_eq_of_mem_set hr with hr | rfl
            · exact (ho b hb).2 _ _ _ rows eq r hr
            · exact refsLts_put ((ho b hb).2 _ _ _ rows eq cs (List.mem_of_getElem? hi)) (mayStore_refs hc.2 hb h1)
          · split at hs
            · rename_i hc
              injection hs with hs
              subst hs
              refine ⟨by simp, fun m h1 h2 ho => ho.setRow fun hb r hr => ?_⟩
              refine refsLts_sub (refsLts_put (cs := rows.flatten) ?_ (mayStore_refs hc.2.2 hb h1)) (chunk_mem hr)
              rw [refsLts_all]
              intro v hv
              obtain ⟨r', hr', hv'⟩ := List.mem_flatten.1 hv
              have := (ho b hb).2 _ _ _ rows eq r' hr'
              rw [refsLts_all] at this
              exact this v hv'
            · simp at hs
        · simp at hs
      · simp at hs
    · simp at hs
  · simp at hs

theorem appendV_grow {base sz : Nat} {t : TypeId} {h h' : Heap} {s v : V} {new : List (List V)} (hs : appendV base h t sz s new = some (v, h')) : Grow base h h' := by
  unfold appendV at hs
  split at hs
  · simp only [Option.map_eq_some_iff, Prod.mk.injEq] at hs
    obtain ⟨_, _, _, rfl⟩ := hs
    exact Grow.refl _ _
  · split at hs
    · split at hs
      · injection hs with hs
        simp only [Prod.mk.injEq] at hs
        rw [← hs.2]
        exact Grow.app _ _ _
      · simp at hs
    · split at hs
      · injection hs with hs
        simp only [Prod.mk.injEq] at hs
        rw [← hs.2]
        exact Grow.app _ _ _
      · simp at hs
    · rename_i b ep len
      split at hs
      · rename_i ty z e' rows eq
        split at hs
        · rename_i hc
          injection hs with hs
          simp only [Prod.mk.injEq] at hs
          rw [← hs.2]
          refine ⟨by simp, fun m h1 h2 ho => ho.setRow fun hb r hr => ?_⟩
          rcases List.mem_append.1 hr with hr | hr
          · exact (ho b hb).2 _ _ _ rows eq r (List.mem_of_mem_take hr)
          · exact mayStore_refs (List.all_eq_true.1 hc.2.2.2.2.2.2 r hr) hb h1
        · simp at hs
      · simp at hs
    · simp at hs

theorem copyV_grow {base sz : Nat} {h h' : Heap} {d : V} {k : Nat} {new : List (List V)} (hs : copyV base h sz d new = some (k, h')) : Grow base h h' := by
  unfold copyV at hs
  split at hs
  · simp at hs
  · rename_i m hm
    split at hs
    · simp only [Option.some.injEq, Prod.mk.injEq] at hs
      rw [← hs.2]
      exact Grow.refl _ _
    · rename_i hne
      split at hs
      · rename_i b e off len
        split at hs
        · rename_i ty z e' rows eq
          split at hs
          · rename_i hc
            simp only [Option.some.injEq, Prod.mk.injEq] at hs
            rw [← hs.2]
            refine ⟨by simp, fun m h1 h2 ho => ho.setRow fun hb r hr => ?_⟩
            rcases List.mem_append.1 hr with hr | hr
            · rcases List.mem_append.1 hr with hr | hr
              · exact (ho b hb).2 _ _ _ rows eq r (List.mem_of_mem_take hr)
              · exact mayStore_refs (List.all_eq_true.1 hc.2.2.2.2 r hr) hb h1
            · exact (ho b hb).2 _ _ _ rows eq r (List.mem_of_mem_drop hr)
          · simp at hs
        · simp at hs
      · simp at hs

theorem sliceV_grow {base sz lo : Nat} {hi mx : Option Nat} {h h' : Heap} {x v : V} (hs : sliceV h sz x lo hi mx = some (v, h')) : Grow base h h' := by
  unfold sliceV at hs
  split at hs
  · split at hs
    · injection hs with hs
      simp only [Prod.mk.injEq] at hs
      rw [← hs.2]
      exact Grow.refl _ _
    · simp at hs
  · rename_i b ep off len
    split at hs
    · split at hs
      · rename_i ty z e' rs eq
        split at hs
        · split at hs
          · injection hs with hs
            simp only [Prod.mk.injEq] at hs
            rw [← hs.2]
            exact Grow.refl _ _
          · split at hs
            · injection hs with hs
              simp only [Prod.mk.injEq] at hs
              rw [← hs.2]
              exact ⟨by simp, fun m h1 h2 ho => ho.setRow fun hb r hr => (ho b hb).2 _ _ _ rs eq r (List.mem_of_mem_take hr)⟩
            · simp at hs
        · simp at hs
      · simp at hs
    · simp at hs
  · split at hs
    · injection hs with hs
      simp only [Prod.mk.injEq] at hs
      rw [← hs.2]
      exact Grow.refl _ _
    · simp at hs
  · simp at hs

theorem HeapOk.setDead {n b : Nat} {h : Heap} (ho : HeapOk n h) : HeapOk n (h.set b .dead) := by
  intro c hc'
  by_cases ec : c = b
  · subst ec
    rcases Nat.lt_or_ge c h.length with hl | hl
    · rw [List.getElem?_set_self hl]
      exact ⟨fun _ _ he => by simp at he, fun _ _ _ _ he => by simp at he⟩
    · rw [List.getElem?_eq_none (by simpa using hl)]
      exact ⟨fun _ _ he => by simp at he, fun _ _ _ _ he => by simp at he⟩
  · rw [List.getElem?_set_ne (by omega)]
    exact ho c hc'

theorem strDataV_grow {base k : Nat} {u : TypeId} {h h' : Heap} {x v : V} (hs : strDataV h u k x = some (v, h')) : Grow base h h' := by
  unfold strDataV at hs
  split at hs
  · split at hs
    · injection hs with hs
      simp only [Prod.mk.injEq] at hs
      rw [← hs.2]
      exact Grow.refl _ _
    · simp at hs
  · split at hs
    · split at hs
      · simp only [Option.map_eq_some_iff, Prod.mk.injEq] at hs
        obtain ⟨_, _, _, rfl⟩ := hs
        exact ⟨by simp, fun m h1 h2 ho => ho.setDead⟩
      · simp at hs
    · simp at hs
  · simp at hs

/-- Every answer leaves memory grown. -/
def GrowO (base : Nat) (h : Heap) (x : Option (V × Heap)) : Prop := ∀ v h', x = some (v, h') → Grow base h h'

theorem GrowO.none {base : Nat} {h : Heap} : GrowO base h none := fun _ _ e => by simp at e
theorem GrowO.same {base : Nat} {h : Heap} {v : V} : GrowO base h (some (v, h)) := fun _ _ e => by
  simp only [Option.some.injEq, Prod.mk.injEq] at e
  rw [← e.2]
  exact Grow.refl _ _
theorem GrowO.app {base : Nat} {h : Heap} {v : V} {o : Obj} : GrowO base h (some (v, h ++ [o])) := fun _ _ e => by
  simp only [Option.some.injEq, Prod.mk.injEq] at e
  rw [← e.2]
  exact Grow.app _ _ _
theorem GrowO.map {α : Type} {base : Nat} {h : Heap} {x : Option α} {f : α → V} : GrowO base h (x.map fun a => (f a, h)) := fun _ _ e => by
  simp only [Option.map_eq_some_iff, Prod.mk.injEq] at e
  obtain ⟨_, _, _, rfl⟩ := e
  exact Grow.refl _ _
theorem GrowO.bind {α : Type} {base : Nat} {h : Heap} {x : Option α} {f : α → Option (V × Heap)} (hf : ∀ a, GrowO base h (f a)) : GrowO base h (x.bind f) := fun _ _ e => by
  simp only [Option.bind_eq_some_iff] at e
  obtain ⟨a, _, e⟩ := e
  exact hf a _ _ e
theorem GrowO.ite {base : Nat} {h : Heap} {c : Prop} [Decidable c] {x y : Option (V × Heap)} (hx : GrowO base h x) (hy : GrowO base h y) : GrowO base h (if c then x else y) := by
  split
  · exact hx
  · exact hy

theorem step_grow {base : Nat} {en : Env} {h h' : Heap} {op : AOp} {v : V} (hs : step base en h op = some (v, h')) : Grow base h h' := by
  refine (?_ : GrowO base h (step base en h op)) v h' hs
  clear hs v h'
  cases op <;> simp only [step]
  case store n a x =>
    intro v h' e
    simp only [Option.map_eq_some_iff, Prod.mk.injEq] at e
    obtain ⟨h2, h1, _, rfl⟩ := e
    exact storeV_grow h1
  case strData u x n =>
    split
    · refine GrowO.ite ?_ GrowO.none
      exact fun _ _ e => strDataV_grow e
    · exact GrowO.none
  case append t sz s x => exact GrowO.bind fun new => fun _ _ e => appendV_grow e
  case copy sz d x =>
    refine GrowO.bind fun new => fun _ _ e => ?_
    simp only [Option.map_eq_some_iff, Prod.mk.injEq] at e
    obtain ⟨⟨k, h2⟩, h1, _, rfl⟩ := e
    exact copyV_grow h1
  case slice sz x lo hi mx =>
    refine GrowO.bind fun l => ?_
    split
    · exact fun _ _ e => sliceV_grow e
    · exact GrowO.bind fun _ => fun _ _ e => sliceV_grow e
    · exact GrowO.bind fun _ => GrowO.bind fun _ => fun _ _ e => sliceV_grow e
    · exact GrowO.none
  all_goals repeat' first
    | exact GrowO.none
    | exact GrowO.same
    | exact GrowO.app
    | exact GrowO.map
    | refine GrowO.bind fun _ => ?_
    | refine GrowO.ite ?_ ?_
    | split

end Go.Am
