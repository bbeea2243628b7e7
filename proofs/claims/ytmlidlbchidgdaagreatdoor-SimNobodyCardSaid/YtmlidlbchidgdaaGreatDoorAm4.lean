/- The abstract machine and what is proved in it, part 4. -/
import Derived.Test.YtmlidlbchidgdaaGreatDoorAm3
import Derived.LoopN
import Derived.Orders
set_option linter.unusedVariables false
set_option linter.unusedSimpArgs false
namespace Go.Am
section
open Go.RowKit (Below)
def CallsF (P : Program) (f : FuncId) (args : Array Value) (w : World) (R : Value → World → Prop) : Prop :=
  match (callFunc f args).run P w with
  | .ok (.value v) w' => R v w'
  | .ok (.enter g as) w' => Calls P g as w' fun
      | .returned v, w'' => R v w''
      | _, _ => False
  | .ok (.row row as) w' => Rows P row as w' R
  | _ => False
def HeapOk (base : Nat) (h : Heap) : Prop :=
  ∀ b, b < base → (∀ t cs, h[b]? = some (.box t cs) → refsLts base cs = true) ∧ (∀ t sz e rows, h[b]? = some (.row t sz e rows) → ∀ r ∈ rows, refsLts base r = true) ∧ (∀ es, h[b]? = some (.mmap es) → ∀ e ∈ es, refsLt base e.2 = true)
def Grow (base : Nat) (h h' : Heap) : Prop := h.length ≤ h'.length ∧ ∀ n, n ≤ base → n ≤ h.length → HeapOk n h → HeapOk n h'
theorem Grow.refl (base : Nat) (h : Heap) : Grow base h h := ⟨Nat.le_refl _, fun _ _ _ h => h⟩
theorem Grow.trans {base : Nat} {a b c : Heap} (h : Grow base a b) (k : Grow base b c) : Grow base a c :=
  ⟨Nat.le_trans h.1 k.1, fun n h1 h2 ho => k.2 n h1 (Nat.le_trans h2 h.1) (h.2 n h1 h2 ho)⟩
structure Reach (G : Tie) (w : World) (h' : Heap) (w' : World) (G' : Tie) : Prop where
  ext : Ext G G'
  rel : Rel G' h' w'
  below : Bel G w w'
theorem Reach.refl {G : Tie} {h : Heap} {w : World} (R : Rel G h w) : Reach G w h w G := ⟨Ext.refl G, R, Bel.refl _ _⟩
theorem Reach.trans {G G' G'' : Tie} {h h' : Heap} {w w' w'' : World} (a : Reach G w h w' G') (b : Reach G' w' h' w'' G'') : Reach G w h' w'' G'' :=
  ⟨a.ext.trans b.ext, b.rel, a.below.trans ⟨by have := b.below.bel; rwa [a.ext.b0] at this, by have := b.below.kept; rwa [a.ext.kp] at this⟩⟩
structure CallOk (P : Program) (gl : Nat → Option (List V)) (call : CallF) : Prop where
  grow : ∀ base f args h r h', call base f args h = some (r, h') → base ≤ h.length → Grow base h h'
  runs : ∀ base f args h r h', call base f args h = some (r, h') → base ≤ h.length → ∀ G w vals, GlobOk G gl → Rel G h w → RepL G args vals.toList →
    CallsF P f vals w fun rv w' => ∃ G', Reach G w h' w' G' ∧ RepV G' r rv
theorem refsLts_all {n : Nat} : ∀ {l : List V}, refsLts n l = true ↔ ∀ v ∈ l, refsLt n v = true
  | [] => by simp [refsLts]
  | v :: r => by simp [refsLts, refsLts_all]
mutual
theorem refsLt_mono {n m : Nat} (h : n ≤ m) : ∀ {v : V}, refsLt n v = true → refsLt m v = true
  | .undef, _ => by simp [refsLt]
  | .opq, _ => by simp [refsLt]
  | .sc _, _ => by simp [refsLt]
  | .slc .., _ => by simp [refsLt]
  | .eptr .., _ => by simp [refsLt]
  | .ptr .., hv => by simp [refsLt] at hv ⊢; omega
  | .hsl .., hv => by simp [refsLt] at hv ⊢; omega
  | .rptr .., hv => by simp [refsLt] at hv ⊢; omega
  | .mp _, hv => by simp [refsLt] at hv ⊢; omega
  | .fn f a c, hv => by
    simp only [refsLt, Bool.and_eq_true] at hv ⊢
    exact ⟨refsLts_mono h hv.1, refsLts_mono h hv.2⟩
  | .agg cs, hv => by
    simp only [refsLt] at hv ⊢
    exact refsLts_mono h hv
  | .tup cs, hv => by
    simp only [refsLt] at hv ⊢
    exact refsLts_mono h hv
  | .ifc t v, hv => by
    simp only [refsLt] at hv ⊢
    exact refsLt_mono h hv
theorem refsLts_mono {n m : Nat} (h : n ≤ m) : ∀ {l : List V}, refsLts n l = true → refsLts m l = true
  | [], _ => by simp [refsLts]
  | v :: r, hv => by
    simp only [refsLts, Bool.and_eq_true] at hv ⊢
    exact ⟨refsLt_mono h hv.1, refsLts_mono h hv.2⟩
end
theorem HeapOk.app {n : Nat} {h : Heap} (ho : HeapOk n h) (hn : n ≤ h.length) (o : Obj) : HeapOk n (h ++ [o]) := by
  intro b hb
  have : (h ++ [o])[b]? = h[b]? := List.getElem?_append_left (by omega)
  rw [this]
  exact ho b hb
theorem Grow.app (base : Nat) (h : Heap) (o : Obj) : Grow base h (h ++ [o]) := ⟨by simp, fun _ _ h2 ho => ho.app h2 o⟩
theorem HeapOk.setBox {n b : Nat} {t : TypeId} {h : Heap} {cs : List V} (ho : HeapOk n h) (hc : b < n → refsLts n cs = true) : HeapOk n (h.set b (.box t cs)) := by
  intro c hc'
  by_cases e : c = b
  · subst e
    rcases Nat.lt_or_ge c h.length with hl | hl
    · rw [List.getElem?_set_self hl]
      refine ⟨fun _ cs' he => ?_, fun _ _ _ _ he => by simp at he, fun _ he => by simp at he⟩
      simp at he
      obtain ⟨_, rfl⟩ := he
      exact hc hc'
    · rw [List.getElem?_eq_none (by simpa using hl)]
      exact ⟨fun _ _ he => by simp at he, fun _ _ _ _ he => by simp at he, fun _ he => by simp at he⟩
  · rw [List.getElem?_set_ne (by omega)]
    exact ho c hc'
theorem HeapOk.setRow {n b sz e : Nat} {t : TypeId} {h : Heap} {rows : List (List V)} (ho : HeapOk n h) (hc : b < n → ∀ r ∈ rows, refsLts n r = true) : HeapOk n (h.set b (.row t sz e rows)) := by
  intro c hc'
  by_cases ec : c = b
  · subst ec
    rcases Nat.lt_or_ge c h.length with hl | hl
    · rw [List.getElem?_set_self hl]
      refine ⟨fun _ cs' he => by simp at he, fun _ _ _ rows' he => ?_, fun _ he => by simp at he⟩
      simp at he
      obtain ⟨_, _, _, rfl⟩ := he
      exact hc hc'
    · rw [List.getElem?_eq_none (by simpa using hl)]
      exact ⟨fun _ _ he => by simp at he, fun _ _ _ _ he => by simp at he, fun _ he => by simp at he⟩
  · rw [List.getElem?_set_ne (by omega)]
    exact ho c hc'
theorem HeapOk.setMap {n b : Nat} {h : Heap} {es : List (Value × V)} (ho : HeapOk n h) (hc : b < n → ∀ e ∈ es, refsLt n e.2 = true) : HeapOk n (h.set b (.mmap es)) := by
  intro c hc'
  by_cases ec : c = b
  · subst ec
    rcases Nat.lt_or_ge c h.length with hl | hl
    · rw [List.getElem?_set_self hl]
      refine ⟨fun _ cs' he => by simp at he, fun _ _ _ rows' he => by simp at he, fun es' he => ?_⟩
      simp at he
      subst he
      exact hc hc'
    · rw [List.getElem?_eq_none (by simpa using hl)]
      exact ⟨fun _ _ he => by simp at he, fun _ _ _ _ he => by simp at he, fun _ he => by simp at he⟩
  · rw [List.getElem?_set_ne (by omega)]
    exact ho c hc'
theorem mayStore_refs {base b n : Nat} {cs : List V} (h : mayStore base b cs = true) (hb : b < n) (hn : n ≤ base) : refsLts n cs = true := by
  unfold mayStore at h
  simp only [Bool.or_eq_true, decide_eq_true_eq] at h
  rcases h with h | h
  · omega
  · exact refsLts_mono (by omega) h
theorem refsLts_append {n : Nat} {a b : List V} (h : refsLts n a = true) (k : refsLts n b = true) : refsLts n (a ++ b) = true := by
  rw [refsLts_all] at *
  intro v hv
  rcases List.mem_append.1 hv with hv | hv
  · exact h v hv
  · exact k v hv
theorem refsLts_sub {n : Nat} {a b : List V} (h : refsLts n a = true) (hs : ∀ v ∈ b, v ∈ a) : refsLts n b = true := by
  rw [refsLts_all] at *
  exact fun v hv => h v (hs v hv)
theorem refsLts_put {n off : Nat} {cs new : List V} (h : refsLts n cs = true) (k : refsLts n new = true) : refsLts n (putCells cs off new) = true := by
  unfold putCells
  exact refsLts_append (refsLts_append (refsLts_sub h fun _ hv => List.mem_of_mem_take hv) k) (refsLts_sub h fun _ hv => List.mem_of_mem_drop hv)
theorem storeV_grow {base n : Nat} {h h' : Heap} {a x : V} (hs : storeV base h n a x = some h') : Grow base h h' := by
  unfold storeV at hs
  split at hs
  case isFalse => simp at hs
  split at hs
  · rename_i b off
    split at hs
    · rename_i cs eq
      split at hs
      · rename_i hc
        injection hs with hs
        subst hs
        exact ⟨by simp, fun m h1 h2 ho => ho.setBox fun hb => refsLts_put ((ho b hb).1 _ cs eq) (mayStore_refs hc.2 hb h1)⟩
      · simp at hs
    · simp at hs
  · rename_i b e i off
    split at hs
    · rename_i ty sz e' rows eq
      split at hs
      · split at hs
        · rename_i cs hi
          split at hs
          · rename_i hc
            injection hs with hs
            subst hs
            refine ⟨by simp, fun m h1 h2 ho => ho.setRow fun hb r hr => ?_⟩
            rcases List.mem_or_eq_of_mem_set hr with hr | rfl
            · exact (ho b hb).2.1 _ _ _ rows eq r hr
            · exact refsLts_put ((ho b hb).2.1 _ _ _ rows eq cs (List.mem_of_getElem? hi)) (mayStore_refs hc.2 hb h1)
          · split at hs
            · rename_i hc
              injection hs with hs
              subst hs
              refine ⟨by simp, fun m h1 h2 ho => ho.setRow fun hb r hr => ?_⟩
              refine refsLts_sub (refsLts_put (cs := rows.flatten) ?_ (mayStore_refs hc.2.2 hb h1)) (chunk_mem hr)
              rw [refsLts_all]
              intro v hv
              obtain ⟨r', hr', hv'⟩ := List.mem_flatten.1 hv
              have := (ho b hb).2.1 _ _ _ rows eq r' hr'
              rw [refsLts_all] at this
              exact this v hv'
            · simp at hs
        · simp at hs
      · simp at hs
    · simp at hs
  · simp at hs
theorem mem_tail {α : Type} {c : Prop} [Decidable c] {a b t : List α} {r : α} (h : r ∈ (if c then a ++ b else a ++ b ++ t)) : r ∈ a ++ b ++ t := by
  split at h
  · exact List.mem_append_left _ h
  · exact h
theorem appendV_grow {base sz : Nat} {t : TypeId} {h h' : Heap} {s v : V} {new : List (List V)} (hs : appendV base h t sz s new = some (v, h')) : Grow base h h' := by
  unfold appendV at hs
  split at hs
  · simp only [Option.map_eq_some_iff, Prod.mk.injEq] at hs
    obtain ⟨_, _, _, rfl⟩ := hs
    exact Grow.refl _ _
  · split at hs
    · split at hs
      · injection hs with hs
        simp only [Prod.mk.injEq] at hs
        rw [← hs.2]
        exact Grow.app _ _ _
      · simp at hs
    · split at hs
      · injection hs with hs
        simp only [Prod.mk.injEq] at hs
        rw [← hs.2]
        exact Grow.app _ _ _
      · simp at hs
    · rename_i b ep len
      split at hs
      · rename_i ty z e' rows eq
        split at hs
        · rename_i hc
          injection hs with hs
          simp only [Prod.mk.injEq] at hs
          rw [← hs.2]
          refine ⟨by simp, fun m h1 h2 ho => ho.setRow fun hb r hr => ?_⟩
          replace hr := mem_tail hr
          rcases List.mem_append.1 hr with hr | hr
          · rcases List.mem_append.1 hr with hr | hr
            · exact (ho b hb).2.1 _ _ _ rows eq r (List.mem_of_mem_take hr)
            · exact mayStore_refs (List.all_eq_true.1 hc.2.2.2.2.2.2 r hr) hb h1
          · exact (ho b hb).2.1 _ _ _ rows eq r (List.mem_of_mem_drop hr)
        · simp at hs
      · simp at hs
    · simp at hs
theorem copyV_grow {base sz : Nat} {h h' : Heap} {d : V} {k : Nat} {new : List (List V)} (hs : copyV base h sz d new = some (k, h')) : Grow base h h' := by
  unfold copyV at hs
  split at hs
  · simp at hs
  · rename_i m hm
    split at hs
    · simp only [Option.some.injEq, Prod.mk.injEq] at hs
      rw [← hs.2]
      exact Grow.refl _ _
    · rename_i hne
      split at hs
      · rename_i b e off len
        split at hs
        · rename_i ty z e' rows eq
          split at hs
          · rename_i hc
            simp only [Option.some.injEq, Prod.mk.injEq] at hs
            rw [← hs.2]
            refine ⟨by simp, fun m h1 h2 ho => ho.setRow fun hb r hr => ?_⟩
            rcases List.mem_append.1 hr with hr | hr
            · rcases List.mem_append.1 hr with hr | hr
              · exact (ho b hb).2.1 _ _ _ rows eq r (List.mem_of_mem_take hr)
              · exact mayStore_refs (List.all_eq_true.1 hc.2.2.2.2 r hr) hb h1
            · exact (ho b hb).2.1 _ _ _ rows eq r (List.mem_of_mem_drop hr)
          · simp at hs
        · simp at hs
      · simp at hs
theorem sliceV_grow {base sz lo : Nat} {hi mx : Option Nat} {h h' : Heap} {x v : V} (hs : zg h sz x lo hi mx = some (v, h')) : Grow base h h' := by
  unfold zg at hs
  split at hs
  · split at hs
    · injection hs with hs
      simp only [Prod.mk.injEq] at hs
      rw [← hs.2]
      exact Grow.refl _ _
    · simp at hs
  · rename_i b ep off len
    split at hs
    · split at hs
      · rename_i ty z e' rs eq
        split at hs
        · split at hs
          · injection hs with hs
            simp only [Prod.mk.injEq] at hs
            rw [← hs.2]
            exact Grow.refl _ _
          · split at hs
            · injection hs with hs
              simp only [Prod.mk.injEq] at hs
              rw [← hs.2]
              exact ⟨by simp, fun m h1 h2 ho => ho.setRow fun hb r hr => (ho b hb).2.1 _ _ _ rs eq r (List.mem_of_mem_take hr)⟩
            · split at hs
              · injection hs with hs
                simp only [Prod.mk.injEq] at hs
                rw [← hs.2]
                exact Grow.refl _ _
              · simp at hs
        · simp at hs
      · simp at hs
    · simp only [Option.map_eq_some_iff, Prod.mk.injEq] at hs
      obtain ⟨_, _, _, hs⟩ := hs
      rw [← hs]
      exact Grow.refl _ _
  · split at hs
    · injection hs with hs
      simp only [Prod.mk.injEq] at hs
      rw [← hs.2]
      exact Grow.refl _ _
    · simp at hs
  · simp at hs
theorem HeapOk.setDead {n b : Nat} {h : Heap} (ho : HeapOk n h) : HeapOk n (h.set b .dead) := by
  intro c hc'
  by_cases ec : c = b
  · subst ec
    rcases Nat.lt_or_ge c h.length with hl | hl
    · rw [List.getElem?_set_self hl]
      exact ⟨fun _ _ he => by simp at he, fun _ _ _ _ he => by simp at he, fun _ he => by simp at he⟩
    · rw [List.getElem?_eq_none (by simpa using hl)]
      exact ⟨fun _ _ he => by simp at he, fun _ _ _ _ he => by simp at he, fun _ he => by simp at he⟩
  · rw [List.getElem?_set_ne (by omega)]
    exact ho c hc'
theorem strDataV_grow {base k : Nat} {u : TypeId} {h h' : Heap} {x v : V} (hs : strDataV h u k x = some (v, h')) : Grow base h h' := by
  unfold strDataV at hs
  split at hs
  · split at hs
    · injection hs with hs
      simp only [Prod.mk.injEq] at hs
      rw [← hs.2]
      exact Grow.refl _ _
    · simp at hs
  · split at hs
    · split at hs
      · simp only [Option.map_eq_some_iff, Prod.mk.injEq] at hs
        obtain ⟨_, _, _, rfl⟩ := hs
        exact ⟨by simp, fun m h1 h2 ho => ho.setDead⟩
      · simp at hs
    · simp at hs
  · simp at hs
def GrowO (base : Nat) (h : Heap) (x : Option (V × Heap)) : Prop := ∀ v h', x = some (v, h') → Grow base h h'
theorem GrowO.none {base : Nat} {h : Heap} : GrowO base h none := fun _ _ e => by simp at e
theorem GrowO.same {base : Nat} {h : Heap} {v : V} : GrowO base h (some (v, h)) := fun _ _ e => by
  simp only [Option.some.injEq, Prod.mk.injEq] at e
  rw [← e.2]
  exact Grow.refl _ _
theorem GrowO.app {base : Nat} {h : Heap} {v : V} {o : Obj} : GrowO base h (some (v, h ++ [o])) := fun _ _ e => by
  simp only [Option.some.injEq, Prod.mk.injEq] at e
  rw [← e.2]
  exact Grow.app _ _ _
theorem GrowO.map {α : Type} {base : Nat} {h : Heap} {x : Option α} {f : α → V} : GrowO base h (x.map fun a => (f a, h)) := fun _ _ e => by
  simp only [Option.map_eq_some_iff, Prod.mk.injEq] at e
  obtain ⟨_, _, _, rfl⟩ := e
  exact Grow.refl _ _
theorem GrowO.bind {α : Type} {base : Nat} {h : Heap} {x : Option α} {f : α → Option (V × Heap)} (hf : ∀ a, GrowO base h (f a)) : GrowO base h (x.bind f) := fun _ _ e => by
  simp only [Option.bind_eq_some_iff] at e
  obtain ⟨a, _, e⟩ := e
  exact hf a _ _ e
theorem GrowO.ite {base : Nat} {h : Heap} {c : Prop} [Decidable c] {x y : Option (V × Heap)} (hx : GrowO base h x) (hy : GrowO base h y) : GrowO base h (if c then x else y) := by
  split
  · exact hx
  · exact hy
theorem updateV_grow {base : Nat} {h h' : Heap} {kd : LK} {m k x : V} (hs : updateV base h kd m k x = some h') : Grow base h h' := by
  unfold updateV at hs
  simp only [Option.bind_eq_some_iff] at hs
  obtain ⟨key, _, hs⟩ := hs
  split at hs
  · rename_i b
    split at hs
    · rename_i es eq
      split at hs
      · rename_i hc
        simp only [Option.map_eq_some_iff] at hs
        obtain ⟨r, _, hs⟩ := hs
        have hx : ∀ n, b < n → n ≤ base → refsLt n x = true := fun n h1 h2 => by
          have := mayStore_refs hc.2 h1 h2
          simpa [refsLts] using this
        split at hs
        · subst hs
          refine ⟨by simp, fun n h1 h2 ho => ho.setMap fun hb e he => ?_⟩
          rcases List.mem_or_eq_of_mem_set he with he | rfl
          · exact (ho b hb).2.2 es eq e he
          · exact hx n hb h1
        · subst hs
          refine ⟨by simp, fun n h1 h2 ho => ho.setMap fun hb e he => ?_⟩
          rcases List.mem_append.1 he with he | he
          · exact (ho b hb).2.2 es eq e he
          · simp at he
            subst he
            exact hx n hb h1
      · simp at hs
    · simp at hs
  · simp at hs
theorem step_grow {base : Nat} {en : Env} {h h' : Heap} {op : AOp} {v : V} (hs : step base en h op = some (v, h')) : Grow base h h' := by
  refine (?_ : GrowO base h (step base en h op)) v h' hs
  clear hs v h'
  cases op <;> simp only [step]
  case store n a x =>
    intro v h' e
    simp only [Option.map_eq_some_iff, Prod.mk.injEq] at e
    obtain ⟨h2, h1, _, rfl⟩ := e
    exact storeV_grow h1
  case strData u x n =>
    split
    · refine GrowO.ite ?_ GrowO.none
      exact fun _ _ e => strDataV_grow e
    · exact GrowO.none
  case append t sz s x => exact GrowO.bind fun new => fun _ _ e => appendV_grow e
  case mapUpdate kd m k x =>
    intro v h' e
    simp only [Option.map_eq_some_iff, Prod.mk.injEq] at e
    obtain ⟨h2, h1, _, rfl⟩ := e
    exact updateV_grow h1
  case copy sz d x =>
    refine GrowO.bind fun new => fun _ _ e => ?_
    simp only [Option.map_eq_some_iff, Prod.mk.injEq] at e
    obtain ⟨⟨k, h2⟩, h1, _, rfl⟩ := e
    exact copyV_grow h1
  case clear sz zs x =>
    refine GrowO.bind fun n => fun _ _ e => ?_
    simp only [Option.map_eq_some_iff, Prod.mk.injEq] at e
    obtain ⟨⟨k, h2⟩, h1, _, rfl⟩ := e
    exact copyV_grow h1
  case slice sz x lo hi mx =>
    refine GrowO.bind fun l => ?_
    split
    · exact fun _ _ e => sliceV_grow e
    · exact GrowO.bind fun _ => fun _ _ e => sliceV_grow e
    · exact GrowO.bind fun _ => GrowO.bind fun _ => fun _ _ e => sliceV_grow e
    · exact GrowO.none
  all_goals repeat' first
    | exact GrowO.none
    | exact GrowO.same
    | exact GrowO.app
    | exact GrowO.map
    | refine GrowO.bind fun _ => ?_
    | refine GrowO.ite ?_ ?_
    | split
end
section
open Go.RowKit (Below)
section
variable {P : Program} {gl : Nat → Option (List V)} {call : CallF} {base n nt : Nat}
theorem evOp_grow (hc : CallOk P gl call) {en : Env} {h h' : Heap} {op : AOp} {v : V} (hb : base ≤ h.length) (hs : evOp call base en h op = some (v, h')) : Grow base h h' := by
  unfold evOp at hs
  split at hs
  · split at hs
    · exact hc.grow _ _ _ _ _ _ hs hb
    · simp at hs
  · split at hs
    · split at hs
      · rename_i v' h'' e1
        split at hs
        · injection hs with hs
          simp only [Prod.mk.injEq] at hs
          obtain ⟨rfl, rfl⟩ := hs
          exact hc.grow _ _ _ _ _ _ e1 hb
        · simp at hs
      · simp at hs
    · simp at hs
  · exact step_grow hs
theorem evOper_grow (hc : CallOk P gl call) {en : Env} {h h' : Heap} {o : AOper} {v : V} (hb : base ≤ h.length) (hs : evOper call base en h o = some (v, h')) : Grow base h h' := evOp_grow hc hb (evOper_inv hs).2
theorem evOps_grow (hc : CallOk P gl call) : ∀ {ops : List AOper} {en en' : Env} {h h' : Heap}, base ≤ h.length → evOps call base ops en h = some (en', h') → Grow base h h'
  | [], en, en', h, h', _, hs => by
    simp only [evOps, Option.some.injEq, Prod.mk.injEq] at hs
    rw [← hs.2]
    exact Grow.refl _ _
  | o :: ops, en, en', h, h', hb, hs => by
    have key : ∀ {v h1}, evOper call base en h o = some (v, h1) → evOps call base ops (en.put o.dst v) h1 = some (en', h') → Grow base h h' := by
      intro v h1 e1 e2
      have g1 := evOper_grow hc hb e1
      exact g1.trans (evOps_grow hc (Nat.le_trans hb g1.1) e2)
    unfold evOps at hs
    split at hs
    · split at hs
      · rename_i v h1 e1
        exact key e1 hs
      · simp at hs
    · split at hs
      · split at hs
        · rename_i v h1 e1
          exact key e1 hs
        · simp at hs
      · exact evOps_grow hc hb hs
      · simp at hs
theorem iter_grow {f : Env → Heap → Option (Ex × Env × Heap)} (hf : ∀ en h ex en' h', base ≤ h.length → f en h = some (ex, en', h') → Grow base h h') :
    ∀ (k : Nat) {en en' : Env} {h h' : Heap} {ex : Ex}, base ≤ h.length → iter f k en h = some (ex, en', h') → Grow base h h'
  | 0, _, _, _, _, _, _, hs => by simp [iter] at hs
  | k + 1, en, en', h, h', ex, hb, hs => by
    unfold iter at hs
    split at hs
    · rename_i en1 h1 e1
      have g1 := hf _ _ _ _ _ hb e1
      exact g1.trans (iter_grow hf k (Nat.le_trans hb g1.1) hs)
    · exact hf _ _ _ _ _ hb hs
theorem evC_grow (hc : CallOk P gl call) : ∀ {c : ACode} {en en' : Env} {h h' : Heap} {ex : Ex}, base ≤ h.length → evC call base n c en h = some (ex, en', h') → Grow base h h'
  | .skip, _, _, _, _, _, _, hs => by simp only [evC, Option.some.injEq, Prod.mk.injEq] at hs; rw [← hs.2.2]; exact Grow.refl _ _
  | .ret, _, _, _, _, _, _, hs => by simp only [evC, Option.some.injEq, Prod.mk.injEq] at hs; rw [← hs.2.2]; exact Grow.refl _ _
  | .exit id, _, _, _, _, _, _, hs => by simp only [evC, Option.some.injEq, Prod.mk.injEq] at hs; rw [← hs.2.2]; exact Grow.refl _ _
  | .fail, _, _, _, _, _, _, hs => by simp [evC] at hs
  | .seq a b, en, en', h, h', ex, hb, hs => by
    simp only [evC] at hs
    split at hs
    · rename_i en1 h1 e1
      have g1 := evC_grow hc hb e1
      exact g1.trans (evC_grow hc (Nat.le_trans hb g1.1) hs)
    · exact evC_grow hc hb hs
  | .cond c a b, en, en', h, h', ex, hb, hs => by
    simp only [evC] at hs
    split at hs
    · split at hs
      · exact evC_grow hc hb hs
      · exact evC_grow hc hb hs
    · simp at hs
  | .region ops, en, en', h, h', ex, hb, hs => by
    simp only [evC] at hs
    split at hs
    · rename_i en1 h1 e1
      simp only [Option.some.injEq, Prod.mk.injEq] at hs
      rw [← hs.2.2]
      exact evOps_grow hc hb e1
    · simp at hs
  | .regionM ops rest ps, en, en', h, h', ex, hb, hs => by
    simp only [evC] at hs
    split at hs
    · rename_i s0 e0
      split at hs
      · simp only [Option.some.injEq, Prod.mk.injEq] at hs
        rw [← hs.2.2]
        exact evOps_grow hc hb (en' := s0.1) e0
      · simp at hs
    · simp at hs
  | .block id c, en, en', h, h', ex, hb, hs => by
    simp only [evC] at hs
    split at hs
    · rename_i i en1 h1 e1
      have g1 := evC_grow hc hb e1
      split at hs
      · simp only [Option.some.injEq, Prod.mk.injEq] at hs
        rw [← hs.2.2]
        exact g1
      · simp only [Option.some.injEq, Prod.mk.injEq] at hs
        rw [← hs.2.2]
        exact g1
    · exact evC_grow hc hb hs
  | .loop c, en, en', h, h', ex, hb, hs => by
    simp only [evC] at hs
    exact iter_grow (fun _ _ _ _ _ hb e => evC_grow hc hb e) n hb hs
def AOp.isCall : AOp → Bool
  | .call _ _ => true
  | .callK _ _ _ => true
  | _ => false
def NoC (x : Option AOp) : Prop := ∀ y, x = some y → y.isCall = false
theorem NoC.none : NoC none := fun _ e => by simp at e
theorem NoC.some {y : AOp} (h : y.isCall = false) : NoC (some y) := fun _ e => by injection e with e; rw [← e]; exact h
theorem NoC.map {α : Type} {x : Option α} {f : α → AOp} (h : ∀ a, (f a).isCall = false) : NoC (x.map f) := fun _ e => by
  simp only [Option.map_eq_some_iff] at e
  obtain ⟨a, _, rfl⟩ := e
  exact h a
theorem NoC.bind {α : Type} {x : Option α} {f : α → Option AOp} (h : ∀ a, NoC (f a)) : NoC (x.bind f) := fun y e => by
  simp only [Option.bind_eq_some_iff] at e
  obtain ⟨a, _, e⟩ := e
  exact h a y e
theorem NoC.ite {c : Prop} [Decidable c] {x y : Option AOp} (hx : NoC x) (hy : NoC y) : NoC (if c then x else y) := by
  split
  · exact hx
  · exact hy
theorem compOp_call {op : Op} {f : Opd} {args : List Opd} (h : compOp P gl op = some (.call f args)) :
    ∃ fo as ts, op = .call { callee := .value fo, args := as, argTypes := ts } ∧ (∃ f0, opd gl fo = some f0 ∧ f = guardF gl f0) ∧ opds gl as.toList = some args := by
  have hno : ∀ x : Option AOp, NoC x → x ≠ some (.call f args) := fun x hx e => by have := hx _ e; simp [AOp.isCall] at this
  cases op
  case call c =>
    obtain ⟨callee, as, ts⟩ := c
    simp only [compOp, compCall] at h
    split at h
    · simp only [Option.bind_eq_some_iff, Option.map_eq_some_iff] at h
      obtain ⟨f', hf, xs, hx, he⟩ := h
      injection he with e1 e2
      subst e1; subst e2
      exact ⟨_, _, _, rfl, ⟨f', hf, rfl⟩, hx⟩
    · exfalso
      refine hno _ ?_ h
      unfold compBuiltin
      repeat' first
        | exact NoC.none
        | exact NoC.some rfl
        | exact NoC.map fun _ => rfl
        | refine NoC.bind fun _ => ?_
        | refine NoC.ite ?_ ?_
        | split
    · simp at h
  case makeMap t r =>
    exfalso
    cases r with
    | none => exact hno _ (NoC.some (y := .makeMap) rfl) h
    | some r => simp [compOp] at h
  all_goals
    exfalso
    refine hno _ ?_ h
    simp only [compOp, compBin, compConv]
    repeat' first
      | exact NoC.none
      | exact NoC.some rfl
      | exact NoC.map fun _ => rfl
      | refine NoC.bind fun _ => ?_
      | refine NoC.ite ?_ ?_
      | split
theorem compOp_noK {op : Op} {f : Opd} {args : List Opd} {ts : List Nat} (h : compOp P gl op = some (.callK f args ts)) : False := by
  have hno : ∀ x : Option AOp, NoC x → x ≠ some (.callK f args ts) := fun x hx e => by have := hx _ e; simp [AOp.isCall] at this
  cases op
  case call c =>
    obtain ⟨callee, as, us⟩ := c
    simp only [compOp, compCall] at h
    split at h
    · simp only [Option.bind_eq_some_iff, Option.map_eq_some_iff] at h
      obtain ⟨f', hf, xs, hx, he⟩ := h
      simp at he
    · exfalso
      refine hno _ ?_ h
      unfold compBuiltin
      repeat' first
        | exact NoC.none
        | exact NoC.some rfl
        | exact NoC.map fun _ => rfl
        | refine NoC.bind fun _ => ?_
        | refine NoC.ite ?_ ?_
        | split
    · simp at h
  case makeMap t r =>
    exfalso
    cases r with
    | none => exact hno _ (NoC.some (y := .makeMap) rfl) h
    | some r => simp [compOp] at h
  all_goals
    exfalso
    refine hno _ ?_ h
    simp only [compOp, compBin, compConv]
    repeat' first
      | exact NoC.none
      | exact NoC.some rfl
      | exact NoC.map fun _ => rfl
      | refine NoC.bind fun _ => ?_
      | refine NoC.ite ?_ ?_
      | split
theorem guardF_get (f : Opd) (en : Env) : (guardF gl f).get en = f.get en ∨ (guardF gl f).get en = .undef := by
  unfold guardF
  split
  · rename_i t
    split
    · generalize (List.range 1000).filter _ = qs
      simp only [Opd.get]
      split
      · rename_i k a c e
        split
        · exact .inl e.symm
        · exact .inr rfl
      · exact .inr rfl
    · exact .inl rfl
  · exact .inl rfl
theorem guardF_rep {G : Tie} {en : Env} {f : Opd} {r : Value} (h : RepV G (f.get en) r) : RepV G ((guardF gl f).get en) r := by
  rcases guardF_get (gl := gl) f en with e | e
  · rw [e]; exact h
  · rw [e]; simp [RepV]
theorem oper_wp (hc : CallOk P gl call) {G : Tie} {en : Env} {h h' : Heap} {a : Act} {w : World} {o : Oper} {ao : AOper} {all : List Oper} {v : V} {Q : Exit → Act → World → Prop} {next : Act → World → Prop}
    (hgl : GlobOk G gl) (he : RepEnv G en a.tmps) (R : Rel G h w) (hb : base ≤ h.length) (hco : compOper P gl nt all o = some ao) (hs : evOper call base en h ao = some (v, h'))
    (hn : ∀ r w' G', Reach G w h' w' G' → RepV G' v r → next (a.put o.dst r) w') : o.wp P a w next Q := by
  unfold compOper at hco
  have hop : ao.op = compOpT P gl o.op := by
    simp only at hco
    split at hco
    · split at hco
      · injection hco with hco; rw [← hco]
      · simp only [Option.map_eq_some_iff] at hco
        obtain ⟨d, _, rfl⟩ := hco
        rfl
    · simp at hco
  unfold Oper.wp
  have quiet : step base en h ao.op = some (v, h') → o.upon P a next Q ((execOp a.eval o).run P w) := by
    intro hst
    rw [hop] at hst
    unfold compOpT at hst
    cases hcp : compOp P gl o.op with
    | none => rw [hcp] at hst; simp [step] at hst
    | some op =>
      rw [hcp] at hst
      obtain ⟨r, w', G', hrun, x, R', hv, hbl⟩ := step_run hgl he R hcp hst
      rcases hrun with hrun | ⟨hrun, rfl⟩
      · rw [hrun]
        exact hn r w' G' ⟨x, R', hbl⟩ hv
      · rw [hrun]
        exact hn undef w' G' ⟨x, R', hbl⟩ hv
  have hs := (evOper_inv hs).2
  generalize hgo : ao.op = gop at hs
  unfold evOp at hs
  split at hs
  · rename_i f args
    have eop := hgo
    rw [hop] at eop
    split at hs
    · rename_i k vs et
      have hcp : compOp P gl o.op = some (.call f args) := by
        unfold compOpT at eop
        cases hcp : compOp P gl o.op with
        | none => rw [hcp] at eop; simp at eop
        | some op => rw [hcp] at eop; simp only [Option.getD_some] at eop; rw [eop]
      obtain ⟨fo, as, ts, ho, ⟨f0, hf, hf0⟩, hargs⟩ := compOp_call hcp
      have hfv : RepV G (f.get en) (a.eval fo) := by rw [hf0]; exact guardF_rep (opd_rep hgl he hf)
      have hav := opds_rep hgl he hargs
      unfold zr at et
      split at et
      · rename_i g fa fc ef
        injection et with et
        simp only [Prod.mk.injEq] at et
        obtain ⟨rfl, rfl⟩ := et
        rw [ef] at hfv
        simp only [RepV] at hfv
        obtain ⟨ra, rc, hr, h1, h2⟩ := hfv
        have hvals : RepL G (fa ++ zh en args ++ fc) ((ra ++ as.map a.eval) ++ rc).toList := by
          simp only [Array.toList_append]
          refine (h1.append ?_).append h2
          simpa using hav
        have hcall := hc.runs _ _ _ _ _ _ hs hb G w _ hgl R hvals
        have hex : execOp a.eval o = callFunc g ((ra ++ as.map a.eval) ++ rc) := by
          simp only [execOp, ho, resolve, hr, Deferred.ofValue]
          rfl
        rw [hex]
        unfold CallsF at hcall
        split at hcall
        · rename_i v' w' e1
          rw [e1]
          obtain ⟨G', hreach, hv⟩ := hcall
          exact hn _ _ _ hreach hv
        · rename_i g' as' w' e1
          rw [e1]
          rw [Oper.upon_enter]
          refine hcall.mono ?_
          intro e w'' hq
          cases e with
          | returned rv =>
            obtain ⟨G', hreach, hv⟩ := hq
            exact hn _ _ _ hreach hv
          | panicked chain => exact hq.elim
          | outgrown => exact hq.elim
        · rename_i row as' w' e1
          rw [e1]
          rw [Oper.upon_row]
          refine hcall.mono ?_
          intro rv w'' hq
          obtain ⟨G', hreach, hv⟩ := hq
          exact hn _ _ _ hreach hv
        · exact hcall.elim
      · simp at et
    · simp at hs
  · rename_i f args ts
    exfalso
    rw [hop] at hgo
    unfold compOpT at hgo
    cases hcp : compOp P gl o.op with
    | none => rw [hcp] at hgo; simp at hgo
    | some op => rw [hcp] at hgo; simp only [Option.getD_some] at hgo; subst hgo; exact compOp_noK hcp
  · exact quiet (by rw [hgo]; exact hs)
theorem compOper_inv {all : List Oper} {o : Oper} {ao : AOper} (h : compOper P gl nt all o = some ao) :
    ao.off = [] ∧ ao.dst = o.dst ∧ (∀ d, o.dst = some d → d < nt) ∧ ((o.guard = none ∧ ao.guard = none) ∨ ∃ j want d, o.guard = some (j, want) ∧ ao.guard = some (d, want) ∧ (all[j]?).bind (·.dst) = some d) := by
  unfold compOper at h
  simp only at h
  split at h
  · rename_i hd
    have hd' : ∀ d, o.dst = some d → d < nt := by
      intro d hdd
      rw [hdd] at hd
      simpa using hd
    split at h
    · rename_i hg
      injection h with h
      subst h
      exact ⟨rfl, rfl, hd', .inl ⟨hg, rfl⟩⟩
    · rename_i j want hg
      simp only [Option.map_eq_some_iff] at h
      obtain ⟨d, hdd, rfl⟩ := h
      exact ⟨rfl, rfl, hd', .inr ⟨j, want, d, hg, rfl, hdd⟩⟩
  · simp at h
theorem put_env {G : Tie} {en : Env} {a : Act} (he : RepEnv G en a.tmps) {dst : Option Nat} (hd : ∀ d, dst = some d → d < nt) (hsz : nt ≤ a.tmps.size) {v : V} {r : Value} (hv : RepV G v r) :
    RepEnv G (en.put dst v) (a.put dst r).tmps ∧ (a.put dst r).tmps.size = a.tmps.size ∧ (a.put dst r).defers = a.defers := by
  cases dst with
  | none => exact ⟨he, rfl, rfl⟩
  | some d => exact ⟨he.put (Nat.lt_of_lt_of_le (hd d rfl) hsz) hv, by simp [Act.put], rfl⟩
def Serves (P : Program) (gl : Nat → Option (List V)) (nt : Nat) (all : List Oper) (o : Oper) (ao : AOper) : Prop :=
  ∃ b, compOper P gl nt all o = some b ∧ Stands ao b
theorem one_wp (hc : CallOk P gl call) {ops : Array Oper} {Q : Exit → Act → World → Prop} {K : Act → World → Prop} {i : Nat} {o : Oper} {ao : AOper} {G : Tie} {en : Env} {h h' : Heap} {a : Act} {w : World} {v : V}
    (ho : ops[i]? = some o) (hser : Serves P gl nt ops.toList o ao) (hgl : GlobOk G gl) (he : RepEnv G en a.tmps) (R : Rel G h w) (hb : base ≤ h.length) (hsz : nt ≤ a.tmps.size) (hs : evVal call base ao en h = some (v, h'))
    (hK : ∀ a' w' G', Reach G w h' w' G' → base ≤ h'.length → RepEnv G' (en.put ao.dst v) a'.tmps → a'.tmps.size = a.tmps.size → a'.defers = a.defers → K a' w') : wpOp P ops Q i K a w := by
  obtain ⟨b, hco, hab⟩ := hser
  have hs' : evVal call base b en h = some (v, h') := hab.val hs
  have hdst' : ao.dst = b.dst := hab.1
  rw [hdst'] at hK
  clear hs hab hdst'
  obtain ⟨_, hdst, hdlt, hguard⟩ := compOper_inv hco
  rw [hdst] at hK
  unfold wpOp
  simp only [ho]
  have key : evOper call base en h b = some (v, h') → o.wp P a w K Q := by
    intro e1
    refine oper_wp hc hgl he R hb hco e1 fun r w' G' hreach hv => ?_
    obtain ⟨p1, p2, p3⟩ := put_env (he.ext hreach.ext) hdlt hsz hv
    exact hK _ _ G' hreach (Nat.le_trans hb (evOper_grow hc hb e1).1) p1 p2 p3
  unfold evVal at hs'
  split at hs'
  · rename_i hg
    have hw : Region.wanted o (yielded ops a.tmps) = true := by
      rcases hguard with ⟨h1, _⟩ | ⟨j, want, d, _, h2, _⟩
      · unfold Region.wanted; rw [h1]
      · rw [h2] at hg; simp at hg
    rw [if_pos hw]
    exact .inl (key hs')
  · rename_i g want hg
    rcases hguard with ⟨_, h2⟩ | ⟨j, want', d, h1, h2, hd⟩
    · rw [h2] at hg; simp at hg
    · rw [h2] at hg
      injection hg with hg
      simp only [Prod.mk.injEq] at hg
      obtain ⟨rfl, rfl⟩ := hg
      cases hgo : gOk (en d) want' with
      | none => rw [hgo] at hs'; simp at hs'
      | some t =>
        rw [hgo] at hs'
        have hw : Region.wanted o (yielded ops a.tmps) = t := by
          have hd' : (ops[j]?).bind (·.dst) = some d := by rw [← Array.getElem?_toList]; exact hd
          have hrep := he d
          unfold gOk at hgo
          split at hgo
          · rename_i u hu
            rw [hu] at hrep
            have hrep := hrep.sc_inv
            have hy : yielded ops a.tmps j = some u := by
              unfold yielded
              rw [hd']
              simp only [Option.bind_some]
              have hlt : d < a.tmps.size := by
                rcases Nat.lt_or_ge d a.tmps.size with hl | hl
                · exact hl
                · simp [Array.getD, show ¬ d < a.tmps.size by omega, undef] at hrep
              have : a.tmps[d]? = some (.bool u) := by
                rw [Array.getElem?_eq_getElem hlt]
                simpa [Array.getD, hlt] using hrep
              rw [this]
            unfold Region.wanted
            rw [h1]
            simp only [hy]
            injection hgo with hgo
          · rename_i hu
            rw [hu] at hrep
            simp only [RepV, RepL] at hrep
            obtain ⟨rs, hr, hrs⟩ := hrep
            have hy : yielded ops a.tmps j = none := by
              unfold yielded
              rw [hd']
              simp only [Option.bind_some]
              cases ht : a.tmps[d]? with
              | none => rfl
              | some x =>
                have : a.tmps.getD d undef = x := by simp [Array.getD_eq_getD_getElem?, ht]
                rw [this] at hr
                rw [hr]
            unfold Region.wanted
            rw [h1]
            simp only [hy]
            injection hgo with hgo
          · simp at hgo
        rw [hw]
        cases t with
        | true =>
          rw [if_pos rfl]
          exact .inl (key hs')
        | false =>
          rw [if_neg (by simp)]
          simp only [Option.some.injEq, Prod.mk.injEq] at hs'
          obtain ⟨rfl, rfl⟩ := hs'
          obtain ⟨p1, p2, p3⟩ := put_env (a := a) he hdlt hsz (v := .tup []) (r := undef) (by simp only [RepV]; exact ⟨#[], rfl, by simp [RepL]⟩)
          exact hK _ _ G (Reach.refl R) hb p1 p2 p3
theorem ops_wp (hc : CallOk P gl call) {ops : Array Oper} {Q : Exit → Act → World → Prop} : ∀ {l : List Nat} {aops : List AOper} {G : Tie} {en en' : Env} {h h' : Heap} {a : Act} {w : World},
    All2 (fun i ao => ∃ o, ops[i]? = some o ∧ Serves P gl nt ops.toList o ao) l aops →
    GlobOk G gl → RepEnv G en a.tmps → Rel G h w → base ≤ h.length → nt ≤ a.tmps.size → evOps call base aops en h = some (en', h') →
    (∀ a' w' G', Reach G w h' w' G' → RepEnv G' en' a'.tmps → a'.tmps.size = a.tmps.size → a'.defers = a.defers → Q .normal a' w') → wpOps P ops Q l a w
  | [], aops, G, en, en', h, h', a, w, hall, hgl, he, R, hb, hsz, hs, hQ => by
    simp only [All2] at hall
    subst hall
    simp only [evOps, Option.some.injEq, Prod.mk.injEq] at hs
    obtain ⟨rfl, rfl⟩ := hs
    exact hQ a w G (Reach.refl R) he rfl rfl
  | i :: l, aops, G, en, en', h, h', a, w, hall, hgl, he, R, hb, hsz, hs, hQ => by
    simp only [All2] at hall
    obtain ⟨ao, aops, rfl, ⟨o, ho, hser⟩, hall⟩ := hall
    rw [evOps_cons, Option.bind_eq_some_iff] at hs
    obtain ⟨⟨v, h1⟩, e1, e2⟩ := hs
    rw [wpOps_cons]
    refine one_wp hc ho hser hgl he R hb hsz e1 fun a' w' G' hreach hb' he' q1 q2 => ?_
    refine ops_wp hc hall (hgl.ext hreach.ext) he' hreach.rel hb' (by omega) e2 fun a'' w'' G'' hreach' he'' r1 r2 => ?_
    exact hQ a'' w'' G'' (hreach.trans hreach') he'' (r1.trans q1) (r2.trans q2)
theorem depB_listed {ops : Array Oper} {listed : Array Bool} (down : ∀ (i : Nat) (o : Oper), ops[i]? = some o → listed.getD i false = true → ∀ e ∈ o.after, Region.binds .any e = true → listed.getD e.on false = true) :
    ∀ (k i x : Nat) (o : Oper), ops[i]? = some o → (∀ e ∈ o.after, Region.binds .any e = true → listed.getD e.on false = true) → depB ops.toList k i x = true → listed.getD x false = true
  | 0, _, _, _, _, _, hd => by simp [depB] at hd
  | k + 1, i, x, o, ho, hl, hd => by
    have ho' : ops.toList[i]? = some o := by rw [Array.getElem?_toList]; exact ho
    simp only [depB, ho', List.any_eq_true, Bool.and_eq_true, Bool.or_eq_true, beq_iff_eq, Array.mem_toList_iff] at hd
    obtain ⟨e, hm, hb, he⟩ := hd
    rcases he with rfl | he
    · exact hl e hm hb
    · have hon := hl e hm hb
      cases hoe : ops[e.on]? with
      | none =>
        have : ops.toList[e.on]? = none := by rw [Array.getElem?_toList]; exact hoe
        cases k with
        | zero => simp [depB] at he
        | succ k => simp [depB, this] at he
      | some oe => exact depB_listed down k e.on x oe hoe (fun e' hm' hb' => down e.on oe hoe hon e' hm' hb') he
theorem getD_true_lt {listed : Array Bool} {i : Nat} (h : listed.getD i true = false) : i < listed.size := by
  rcases Nat.lt_or_ge i listed.size with h' | h'
  · exact h'
  · simp [Array.getElem?_eq_none h'] at h
theorem least_mem : ∀ {M : List Nat}, M ≠ [] → ∃ m ∈ M, ∀ x ∈ M, m ≤ x
  | [], h => absurd rfl h
  | [m], _ => ⟨m, by simp, by simp⟩
  | m :: n :: M, _ => by
    obtain ⟨k, hk, hall⟩ := least_mem (M := n :: M) (by simp)
    by_cases h : m ≤ k
    · exact ⟨m, by simp, fun x hx => by
        rcases List.mem_cons.1 hx with rfl | hx
        · exact Nat.le_refl _
        · exact Nat.le_trans h (hall x hx)⟩
    · exact ⟨k, List.mem_cons_of_mem _ hk, fun x hx => by
        rcases List.mem_cons.1 hx with rfl | hx
        · omega
        · exact hall x hx⟩
def PairsOk (quiet : FuncId → Nat) (ops : List Oper) (f : Nat → AOper) (M : List Nat) : Prop :=
  M.Pairwise fun x i => depB ops ops.length i x = true ∨ commB quiet (f x) (f i) = true
theorem any_wp {quiet : FuncId → Nat} (hq : QuietOk quiet call) (hc : CallOk P gl call) {ops : Array Oper} {Q : Exit → Act → World → Prop} {f : Nat → AOper}
    (hf : ∀ (i : Nat) (o : Oper), ops[i]? = some o → Serves P gl nt ops.toList o (f i))
    (hback : ∀ (i : Nat) (o : Oper), ops[i]? = some o → ∀ e ∈ o.after, Region.binds .any e = true → e.on < i) :
    ∀ (fuel : Nat) (listed : Array Bool) (M : List Nat) {G : Tie} {en en' : Env} {h h' : Heap} {a : Act} {w : World},
      M.Nodup → PairsOk quiet ops.toList f M → (∀ i, i ∈ M ↔ i < ops.size ∧ listed.getD i true = false) → listed.size = ops.size → M.length ≤ fuel →
      (∀ (i : Nat) (o : Oper), ops[i]? = some o → listed.getD i false = true → ∀ e ∈ o.after, Region.binds .any e = true → listed.getD e.on false = true) →
      GlobOk G gl → RepEnv G en a.tmps → Rel G h w → base ≤ h.length → nt ≤ a.tmps.size → evOps call base (M.map f) en h = some (en', h') →
      (∀ a' w' G', Reach G w h' w' G' → RepEnv G' en' a'.tmps → a'.tmps.size = a.tmps.size → a'.defers = a.defers → Q .normal a' w') → wpAny P .any ops Q fuel listed a w := by
  intro fuel
  have done : ∀ (listed : Array Bool) (M : List Nat) {G : Tie} {en en' : Env} {h h' : Heap} {a : Act} {w : World},
      (∀ i, i ∈ M ↔ i < ops.size ∧ listed.getD i true = false) → listed.size = ops.size → 
      RepEnv G en a.tmps → Rel G h w → evOps call base (M.map f) en h = some (en', h') →
      (∀ a' w' G', Reach G w h' w' G' → RepEnv G' en' a'.tmps → a'.tmps.size = a.tmps.size → a'.defers = a.defers → Q .normal a' w') → Region.ready .any ops listed = [] → Q .normal a w := by
    intro listed M G en en' h h' a w hM hlen he R hs hQ hr
    by_cases hMn : M = []
    · subst hMn
      simp only [List.map_nil, evOps, Option.some.injEq, Prod.mk.injEq] at hs
      obtain ⟨rfl, rfl⟩ := hs
      exact hQ a w G (Reach.refl R) he rfl rfl
    · exfalso
      obtain ⟨m, hmM, hleast⟩ := least_mem hMn
      obtain ⟨hm, hml⟩ := (hM m).1 hmM
      have : m ∈ Region.ready .any ops listed := by
        rw [mem_ready]
        refine ⟨hml, ops[m], Array.getElem?_eq_getElem hm, fun e he hb => ?_⟩
        have hlt := hback m _ (Array.getElem?_eq_getElem hm) e he hb
        cases hv : listed.getD e.on false with
        | true => rfl
        | false =>
          exfalso
          have hin : e.on ∈ M := (hM e.on).2 ⟨by omega, by
            have : e.on < listed.size := by omega
            simp [this] at hv ⊢
            exact hv⟩
          have := hleast _ hin
          omega
      rw [hr] at this
      simp at this
  induction fuel with
  | zero =>
    intro listed M G en en' h h' a w hnd hp hM hlen hfuel down hgl he R hb hsz hs hQ
    have hMn : M = [] := by simpa using hfuel
    have hr : Region.ready .any ops listed = [] := by
      refine List.eq_nil_iff_forall_not_mem.2 fun i hi => ?_
      rw [mem_ready] at hi
      have := (hM i).2 ⟨by have := getD_true_lt hi.1; omega, hi.1⟩
      rw [hMn] at this
      simp at this
    exact ⟨hr, done listed M hM hlen he R hs hQ hr⟩
  | succ fuel ih =>
    intro listed M G en en' h h' a w hnd hp hM hlen hfuel down hgl he R hb hsz hs hQ
    refine ⟨done listed M hM hlen he R hs hQ, fun i hi => ?_⟩
    obtain ⟨hil, o, ho, hall⟩ := mem_ready.1 hi
    have hisz : i < ops.size := by have := getD_true_lt hil; omega
    have him := (hM i).2 ⟨hisz, hil⟩
    obtain ⟨p, r, rfl⟩ := List.append_of_mem him
    have hcm : ∀ x ∈ p.map f, commB quiet x (f i) = true := by
      intro y hy
      simp only [List.mem_map] at hy
      obtain ⟨x, hx, rfl⟩ := hy
      unfold PairsOk at hp
      rw [List.pairwise_append] at hp
      rcases hp.2.2 x hx i (by simp) with hd | hd
      · exfalso
        have h1 := depB_listed down _ _ _ o ho hall hd
        have h2 := ((hM x).1 (by simp [hx])).2
        have h3 := getD_true_lt h2
        simp [h3] at h1 h2
        rw [h1] at h2
        simp at h2
      · exact hd
    rw [List.map_append, List.map_cons] at hs
    have hs2 := front hq hcm hs
    rw [evOps_cons, Option.bind_eq_some_iff] at hs2
    obtain ⟨⟨v, h1⟩, e1, e2⟩ := hs2
    refine one_wp hc ho (hf i o ho) hgl he R hb hsz e1 fun a' w' G' hreach hb' he' q1 q2 => ?_
    have hsub : (p ++ r).Sublist (p ++ i :: r) := List.Sublist.append_left (List.sublist_cons_self i r) p
    have hni : i ∉ p ++ r := by
      have h1 := List.nodup_append.1 hnd
      have h2 := List.nodup_cons.1 h1.2.1
      intro hc
      rcases List.mem_append.1 hc with hc | hc
      · exact h1.2.2 i hc i (by simp) rfl
      · exact h2.1 hc
    rw [← List.map_append] at e2
    refine ih (listed.setIfInBounds i true) (p ++ r) (hnd.sublist hsub) (List.Pairwise.sublist hsub hp) ?_ (by simpa using hlen) (by simp at hfuel ⊢; omega) ?_ (hgl.ext hreach.ext) he' hreach.rel hb' (by omega) e2 fun a'' w'' G'' hreach' he'' r1 r2 => hQ a'' w'' G'' (hreach.trans hreach') he'' (r1.trans q1) (r2.trans q2)
    · intro x
      by_cases hx : i = x
      · subst hx
        constructor
        · intro hx; exact absurd hx hni
        · rintro ⟨_, hx⟩
          have : i < listed.size := by omega
          simp [this] at hx
      · rw [getD_set_ne true hx, ← hM x]
        simp only [List.mem_append, List.mem_cons]
        constructor
        · rintro (h1 | h1)
          · exact .inl h1
          · exact .inr (.inr h1)
        · rintro (h1 | h1 | h1)
          · exact .inl h1
          · exact absurd h1.symm hx
          · exact .inr h1
    · intro x ox hox hxl e hm hbd
      by_cases hx : i = x
      · subst hx
        rw [ho] at hox
        injection hox with hox
        subst hox
        exact getD_set_true (hall e hm hbd)
      · rw [getD_set_ne false hx] at hxl
        exact getD_set_true (down x ox hox hxl e hm hbd)
def Ex.toExit : Ex → Exit
  | .normal => .normal
  | .exit id => .exit id
  | .ret => .ret
theorem compOps_all {all : List Oper} : ∀ {ops : List Oper} {aops : List AOper} (k : Nat), compOps P gl nt all ops = some aops → (∀ j o, ops[j]? = some o → all[k + j]? = some o) →
    All2 (fun i ao => ∃ o, all[i]? = some o ∧ compOper P gl nt all o = some ao) (List.range' k ops.length) aops
  | [], aops, k, h, _ => by simp [compOps] at h; subst h; simp [All2]
  | o :: ops, aops, k, h, hk => by
    simp only [compOps, Option.bind_eq_some_iff, Option.map_eq_some_iff] at h
    obtain ⟨ao, h1, r, h2, rfl⟩ := h
    simp only [List.length_cons, List.range'_succ, All2]
    refine ⟨ao, r, rfl, ⟨o, by simpa using hk 0 o (by simp), h1⟩, compOps_all (k + 1) h2 fun j o' hj => ?_⟩
    have := hk (j + 1) o' (by simpa using hj)
    rwa [show k + (j + 1) = k + 1 + j by omega] at this
def CodeOk (P : Program) (gl : Nat → Option (List V)) (base nt : Nat) (c : Code) (f : Env → Heap → Option (Ex × Env × Heap)) : Prop :=
  ∀ {G en en' h h' a w ex} {Q : Exit → Act → World → Prop}, GlobOk G gl → RepEnv G en a.tmps → Rel G h w → base ≤ h.length → nt ≤ a.tmps.size → f en h = some (ex, en', h') →
    (∀ a' w' G', Reach G w h' w' G' → RepEnv G' en' a'.tmps → a'.tmps.size = a.tmps.size → a'.defers = a.defers → Q ex.toExit a' w') → c.wp P Q a w
theorem iter_wp {c : Code} {f : Env → Heap → Option (Ex × Env × Heap)} {Q : Exit → Act → World → Prop} (hf : CodeOk P gl base nt c f)
    (hgrow : ∀ en h ex en' h', base ≤ h.length → f en h = some (ex, en', h') → Grow base h h') :
    ∀ (k : Nat) {G : Tie} {en en' : Env} {h h' : Heap} {a : Act} {w : World} {ex : Ex}, GlobOk G gl → RepEnv G en a.tmps → Rel G h w → base ≤ h.length → nt ≤ a.tmps.size → iter f k en h = some (ex, en', h') →
      (∀ a' w' G', Reach G w h' w' G' → RepEnv G' en' a'.tmps → a'.tmps.size = a.tmps.size → a'.defers = a.defers → Q ex.toExit a' w') → Code.rounds P c Q k a w
  | 0, _, _, _, _, _, _, _, _, _, _, _, _, _, hs, _ => by simp [iter] at hs
  | k + 1, G, en, en', h, h', a, w, ex, hgl, he, R, hb, hsz, hs, hQ => by
    rw [rounds_succ]
    unfold iter at hs
    split at hs
    · rename_i en1 h1 e1
      refine hf hgl he R hb hsz e1 fun a' w' G' hreach he' q1 q2 => ?_
      refine iter_wp hf hgrow k (hgl.ext hreach.ext) he' hreach.rel (Nat.le_trans hb (hgrow _ _ _ _ _ hb e1).1) (by omega) hs fun a'' w'' G'' hreach' he'' r1 r2 => ?_
      exact hQ a'' w'' G'' (hreach.trans hreach') he'' (r1.trans q1) (r2.trans q2)
    · rename_i hno
      refine hf hgl he R hb hsz hs fun a' w' G' hreach he' q1 q2 => ?_
      have := hQ a' w' G' hreach he' q1 q2
      cases ex with
      | normal => exact absurd hs (hno en' h')
      | exit id => exact this
      | ret => exact this
theorem All2.mono {α β : Type} {R S : α → β → Prop} (h : ∀ a b, R a b → S a b) : ∀ {as : List α} {bs : List β}, All2 R as bs → All2 S as bs
  | [], _, e => e
  | _ :: _, _, ⟨b, rest, e, r, t⟩ => ⟨b, rest, e, h _ _ r, All2.mono h t⟩
theorem All2.map_right {α β γ : Type} {R : α → γ → Prop} (f : β → γ) : ∀ {as : List α} {bs : List β}, All2 (fun a b => R a (f b)) as bs → All2 R as (bs.map f)
  | [], bs, h => by simp only [All2] at h; subst h; simp [All2]
  | a :: as, bs, h => by
    simp only [All2] at h
    obtain ⟨b, r, rfl, h1, h2⟩ := h
    simp only [List.map_cons, All2]
    exact ⟨_, _, rfl, h1, All2.map_right f h2⟩
theorem All2.length {α β : Type} {R : α → β → Prop} : ∀ {as : List α} {bs : List β}, All2 R as bs → bs.length = as.length
  | [], _, e => by simp only [All2] at e; subst e; rfl
  | _ :: _, _, ⟨b, rest, e, r, t⟩ => by subst e; simp [All2.length t]
theorem All2.get {α β : Type} {R : α → β → Prop} : ∀ {as : List α} {bs : List β}, All2 R as bs → ∀ (i : Nat) (a : α), as[i]? = some a → ∃ b, bs[i]? = some b ∧ R a b
  | [], _, _, i, a, h => by simp at h
  | x :: as, _, ⟨b, rest, e, r, t⟩, 0, a, h => by
    simp only [List.getElem?_cons_zero, Option.some.injEq] at h
    subst h
    exact ⟨b, by simp [e], r⟩
  | x :: as, _, ⟨b, rest, e, r, t⟩, i + 1, a, h => by
    simp only [List.getElem?_cons_succ] at h
    obtain ⟨b', h1, h2⟩ := All2.get t i a h
    exact ⟨b', by simp [e, h1], h2⟩
theorem okPairs_spec {quiet : FuncId → Nat} {ops : List Oper} {l : List AOper} : ∀ {pi : List Nat}, okPairs quiet ops l pi = true → PairsOk quiet ops (fun i => l.getD i default) pi
  | [], _ => List.Pairwise.nil
  | x :: r, h => by
    simp only [okPairs, Bool.and_eq_true, List.all_eq_true, Bool.or_eq_true] at h
    refine List.Pairwise.cons (fun i hi => ?_) (okPairs_spec h.2)
    rcases h.1 i hi with h1 | h1
    · exact .inl h1
    · right
      cases hx : l[x]? with
      | none => rw [hx] at h1; simp at h1
      | some a =>
        cases hi : l[i]? with
        | none => rw [hx, hi] at h1; simp at h1
        | some b =>
          rw [hx, hi] at h1
          simpa [List.getD, hx, hi] using h1
theorem nodupB_spec : ∀ {pi : List Nat}, nodupB pi = true → pi.Nodup
  | [], _ => List.nodup_nil
  | x :: r, h => by
    simp only [nodupB, Bool.and_eq_true, Bool.not_eq_true'] at h
    exact List.nodup_cons.2 ⟨by simpa using h.1, nodupB_spec h.2⟩
end
end
section
open Go.RowKit (Below)
def Tie.withKp (G : Tie) (f : Nat → Bool) : Tie := { G with kp := f }
theorem Ext0.addKp (G : Tie) (f : Nat → Bool) : Ext0 G (G.withKp f) := ⟨fun _ _ _ h => h, Nat.le_refl _, fun _ _ => rfl, fun _ _ L h => ⟨L, h, Nat.le_refl _, fun _ => rfl⟩, rfl⟩
theorem Rel.withKp {G : Tie} {h : Heap} {w : World} (R : Rel G h w) {f : Nat → Bool} (hf : ∀ k, f k = true → k < w.heap.size ∧ (∀ o, G.fz k o = none) ∧ ∀ b, G.real h b ≠ some k) : Rel (G.withKp f) h w where
  n := R.n
  fz := R.fz
  box b t cs e := let ⟨h1, rs, h2, h3⟩ := R.box b t cs e; ⟨h1, rs, h2, RepL.ext0 (Ext0.addKp G f) h3⟩
  row b t sz e rows eq := let ⟨h0, L, rs, h1, h2, h3, h4, h5, h6, h7⟩ := R.row b t sz e rows eq; ⟨h0, L, rs, h1, h2, h3, h4, h5, h6, h7.ext0 (Ext0.addKp G f)⟩
  mp b es e := let ⟨l, c, h1, h2⟩ := R.mp b es e; ⟨l, c, h1, RepM.ext0 (Ext0.addKp G f) h2⟩
  low := R.low
  inj := R.inj
  hb0 := R.hb0
  kp k hk := hf k hk
def layOf (en : Env) : AOp → Option ((Nat → V) × Obj)
  | .alloc t zs => some (fun n => .ptr n 0, .box t zs)
  | .box t x => if (x.get en).cells.all zm = true then some (fun n => .ptr n 0, .box t (x.get en).cells) else none
  | .makeMap => some (fun n => .mp n, .mmap [])
  | _ => none
section
variable {P : Program} {gl : Nat → Option (List V)} {call : CallF} {base n nt : Nat} {quiet : FuncId → Nat}
theorem lay_step {en : Env} {h : Heap} {op : AOp} (hl : op.lay = true) : step base en h op = (layOf en op).map fun p => (p.1 h.length, h ++ [p.2]) := by
  cases op <;> simp [AOp.lay] at hl <;> simp only [step, layOf, Option.map_some]
  split <;> rfl
theorem layOf_congr {en en' : Env} {op : AOp} (he : ∀ t ∈ opdTmps op.opds, en t = en' t) : layOf en op = layOf en' op := by
  cases op with
  | box t x => simp only [layOf, get_congr (l := [x]) he (x := x) (by simp)]
  | _ => rfl
def newOb : Obj → Bool
  | .box .. | .mmap _ => true
  | _ => false
theorem layOf_new {en : Env} {op : AOp} {p : (Nat → V) × Obj} (h : layOf en op = some p) : newOb p.2 = true := by
  cases op <;> simp only [layOf, reduceCtorEq] at h
  · injection h with h; subst h; rfl
  · split at h
    · injection h with h; subst h; rfl
    · simp at h
  · injection h with h; subst h; rfl
theorem Rel.tie {G : Tie} {h : Heap} {w : World} (R : Rel G h w) (k : Nat) (ob : Obj) (hb0 : G.b0 ≤ k) (hfree : ∀ o, G.fz k o = none) (hkp : G.kp k = false) (hown : ∀ c, G.real h c ≠ some k) (hnew : newOb ob = true)
    (hbox : ∀ t cs, ob = .box t cs → cs.all zm = true ∧ ∃ rs, w.heap[k]? = some (.cells rs t (0, 0)) ∧ RepL (G.newBox k) cs rs.toList)
    (hmp : ∀ es, ob = .mmap es → ∃ l clock, w.heap[k]? = some (.map l clock) ∧ RepM (G.newBox k) es l.toList) : Rel (G.newBox k) (h ++ [ob]) w := by
  have hlast : (h ++ [ob])[G.n]? = some ob := by rw [R.n, List.getElem?_append_right (Nat.le_refl _)]; simp
  have hbx : (G.newBox k).bx G.n = k := by simp [Tie.newBox]
  refine R.put (Ext.newBox G k) G.n k ?_ ?_ rfl ?_ (fun _ _ => rfl) ?_ hb0 hfree hkp (fun c _ => hown c) (Nat.le_refl _) (fun _ _ _ => rfl) ?_ ?_ ?_
  · intro c hc
    rw [R.n] at hc
    rcases Nat.lt_or_ge c h.length with hl | hl
    · rw [List.getElem?_append_left hl]
    · rw [List.getElem?_eq_none hl, List.getElem?_eq_none (by simp; omega)]
  · simp [Tie.newBox, R.n]
  · intro c hc
    simp only [Tie.newBox]
    rw [if_neg hc]
  · intro k' hk'
    unfold Tie.real at hk'
    rw [hlast] at hk'
    cases ob <;> simp [newOb] at hnew <;> simp only [Option.some.injEq, hbx] at hk' <;> exact hk'.symm
  · intro t cs e
    rw [hlast] at e
    injection e with e
    rw [hbx]
    exact hbox t cs e
  · intro t sz e rows eq
    rw [hlast] at eq
    injection eq with eq
    subst eq
    simp [newOb] at hnew
  · intro es e
    rw [hlast] at e
    injection e with e
    rw [hbx]
    exact hmp es e
theorem newBox_real {G : Tie} {h : Heap} {ob : Obj} {k b k' : Nat} (hn : G.n = h.length) (hnew : newOb ob = true) (hr : (G.newBox k).real (h ++ [ob]) b = some k') : k' = k ∨ G.real h b = some k' := by
  rcases Nat.lt_or_ge b h.length with hb | hb
  · right
    have hne : ¬ b = G.n := by omega
    unfold Tie.real at hr ⊢
    rw [List.getElem?_append_left hb] at hr
    simp only [Tie.newBox, if_neg hne] at hr
    exact hr
  · have hbl : b < (h ++ [ob]).length := Rel.real_lt hr
    have hbe : b = h.length := by simp at hbl; omega
    subst hbe
    left
    unfold Tie.real at hr
    rw [List.getElem?_append_right (Nat.le_refl _)] at hr
    simp only [Nat.sub_self, List.getElem?_cons_zero] at hr
    cases ob <;> simp [newOb] at hnew <;> simp only [Tie.newBox, hn, if_true, Option.some.injEq] at hr <;> exact hr.symm
def TieOk (G : Tie) (k : Nat) (robj : Go.Obj) (mk : Nat → V) (ob : Obj) (r : Value) : Prop :=
  ∀ (G2 : Tie) (h2 : Heap) (w2 : World), Ext G G2 → Rel G2 h2 w2 → w2.heap[k]? = some robj → G2.b0 ≤ k → (∀ c, G2.fz k c = none) → G2.kp k = false → (∀ b, G2.real h2 b ≠ some k) →
    Rel (G2.newBox k) (h2 ++ [ob]) w2 ∧ RepV (G2.newBox k) (mk h2.length) r
theorem TieOk.ext {G G' : Tie} {k : Nat} {robj : Go.Obj} {mk : Nat → V} {ob : Obj} {r : Value} (h : TieOk G k robj mk ob r) (x : Ext G G') : TieOk G' k robj mk ob r := fun G2 h2 w2 y => h G2 h2 w2 (x.trans y)
def NoL (x : Option AOp) : Prop := ∀ y, x = some y → y.lay = false
theorem NoL.none : NoL none := fun _ e => by simp at e
theorem NoL.some {y : AOp} (h : y.lay = false) : NoL (some y) := fun _ e => by injection e with e; rw [← e]; exact h
theorem NoL.map {α : Type} {x : Option α} {f : α → AOp} (h : ∀ a, (f a).lay = false) : NoL (x.map f) := fun _ e => by
  simp only [Option.map_eq_some_iff] at e
  obtain ⟨a, _, rfl⟩ := e
  exact h a
theorem NoL.bind {α : Type} {x : Option α} {f : α → Option AOp} (h : ∀ a, NoL (f a)) : NoL (x.bind f) := fun y e => by
  simp only [Option.bind_eq_some_iff] at e
  obtain ⟨a, _, e⟩ := e
  exact h a y e
theorem NoL.ite {c : Prop} [Decidable c] {x y : Option AOp} (hx : NoL x) (hy : NoL y) : NoL (if c then x else y) := by
  split
  · exact hx
  · exact hy
theorem compOp_lay {op : Op} {ao : AOp} (h : compOp P gl op = some ao) (hl : ao.lay = true) :
    (∃ t zs, op = .alloc t ∧ ao = .alloc t zs ∧ zeroO P t = some zs) ∨ (∃ t x x', op = .box t x ∧ ao = .box t x' ∧ opd gl x = some x') ∨ (∃ t, op = .makeMap t none ∧ ao = .makeMap) := by
  have hno : ∀ x : Option AOp, NoL x → x ≠ some ao := fun x hx e => by have := hx _ e; rw [hl] at this; simp at this
  cases op
  case alloc t =>
    simp only [compOp, Option.map_eq_some_iff] at h
    obtain ⟨zs, hz, he⟩ := h
    split at he
    · subst he; simp [AOp.lay] at hl
    · exact .inl ⟨t, zs, rfl, he.symm, hz⟩
  case box t x =>
    simp only [compOp, Option.map_eq_some_iff] at h
    obtain ⟨x', hx, he⟩ := h
    split at he
    · subst he; simp [AOp.lay] at hl
    · split at he
      · subst he; simp [AOp.lay] at hl
      · exact .inr (.inl ⟨t, x, x', rfl, he.symm, hx⟩)
  case makeMap t r =>
    cases r with
    | none =>
      simp only [compOp, Option.some.injEq] at h
      exact .inr (.inr ⟨t, rfl, h.symm⟩)
    | some r => simp [compOp] at h
  case call c =>
    exfalso
    obtain ⟨callee, as, ts⟩ := c
    simp only [compOp, compCall] at h
    refine hno _ ?_ h
    unfold compBuiltin
    repeat' first
      | exact NoL.none
      | exact NoL.some rfl
      | exact NoL.map fun _ => rfl
      | refine NoL.bind fun _ => ?_
      | refine NoL.ite ?_ ?_
      | split
  all_goals
    exfalso
    refine hno _ ?_ h
    simp only [compOp, compBin, compConv]
    repeat' first
      | exact NoL.none
      | exact NoL.some rfl
      | exact NoL.map fun _ => rfl
      | refine NoL.bind fun _ => ?_
      | refine NoL.ite ?_ ?_
      | split
theorem compOper_op {all : List Oper} {o : Oper} {ao : AOper} (h : compOper P gl nt all o = some ao) (hl : ao.op.lay = true) : compOp P gl o.op = some ao.op := by
  have hop : ao.op = compOpT P gl o.op := by
    unfold compOper at h
    simp only at h
    split at h
    · split at h
      · injection h with h; rw [← h]
      · simp only [Option.map_eq_some_iff] at h
        obtain ⟨d, _, rfl⟩ := h
        rfl
    · simp at h
  unfold compOpT at hop
  cases hc : compOp P gl o.op with
  | none => rw [hc] at hop; rw [hop] at hl; simp [AOp.lay] at hl
  | some y => rw [hc] at hop; rw [hop]; rfl
theorem lay_run {G : Tie} {en : Env} {h : Heap} {a : Act} {w : World} {o : Oper} {ao : AOper} {all : List Oper} {mk : Nat → V} {ob : Obj} (hgl : GlobOk G gl) (he : RepEnv G en a.tmps) (R : Rel G h w)
    (hco : compOper P gl nt all o = some ao) (hl : ao.op.lay = true) (e : layOf en ao.op = some (mk, ob)) :
    ∃ r robj, (execOp a.eval o).run P w = .ok (.value r) (w.alloc robj) ∧ r.oneCell' = true ∧ TieOk G w.heap.size robj mk ob r := by
  rcases compOp_lay (compOper_op hco hl) hl with ⟨t, zs, hop, hao, hz⟩ | ⟨t, x, x', hop, hao, hx⟩ | ⟨t, hop, hao⟩
  · rw [hao] at e
    simp only [layOf, Option.some.injEq, Prod.mk.injEq] at e
    obtain ⟨rfl, rfl⟩ := e
    obtain ⟨z, hr, hs⟩ := zeroO_run hz w
    refine ⟨.pointer (some ⟨w.heap.size, 0, none⟩), .cells z.cells t (0, 0), ?_, rfl, fun G2 h2 w2 x R2 hw hb hf hk hown => ⟨R2.tie _ _ hb hf hk hown rfl ?_ (fun es e => by simp at e), ?_⟩⟩
    · simp [execOp, hop, Instr.alloc, hr, newVar, newRow]
    · intro t' cs e
      simp only [Obj.box.injEq] at e
      obtain ⟨rfl, rfl⟩ := e
      exact ⟨(scsOf_one hs).1, _, hw, scsOf_rep hs⟩
    · simp [RepV, Tie.newBox, R2.n]
  · rw [hao] at e
    simp only [layOf] at e
    split at e
    · rename_i hone
      simp only [Option.some.injEq, Prod.mk.injEq] at e
      obtain ⟨rfl, rfl⟩ := e
      have hxr := opd_rep hgl he hx
      have hu : x'.get en ≠ .undef := by
        intro e
        rw [e] at hone
        simp [V.cells, zm] at hone
      refine ⟨.pointer (some ⟨w.heap.size, 0, none⟩), .cells (a.eval x).cells t (0, 0), ?_, rfl, fun G2 h2 w2 x R2 hw hb hf hk hown => ⟨R2.tie _ _ hb hf hk hown rfl ?_ (fun es e => by simp at e), ?_⟩⟩
      · simp [execOp, hop, Instr.box, newVar, newRow]
      · intro t' cs e
        simp only [Obj.box.injEq] at e
        obtain ⟨rfl, rfl⟩ := e
        exact ⟨hone, _, hw, RepL.ext (x.trans (Ext.newBox G2 _)) (hxr.cells hu)⟩
      · simp [RepV, Tie.newBox, R2.n]
    · simp at e
  · rw [hao] at e
    simp only [layOf, Option.some.injEq, Prod.mk.injEq] at e
    obtain ⟨rfl, rfl⟩ := e
    refine ⟨.map (some w.heap.size), .map #[] 0, ?_, rfl, fun G2 h2 w2 x R2 hw hb hf hk hown => ⟨R2.tie _ _ hb hf hk hown rfl (fun t cs e => by simp at e) ?_, ?_⟩⟩
    · simp [execOp, hop, Instr.makeMap]
    · intro es e
      simp only [Obj.mmap.injEq] at e
      subst e
      exact ⟨#[], 0, hw, rfl⟩
    · simp [RepV, Tie.newBox, R2.n]
end
end
section
open Go.RowKit (Below)
section
variable {P : Program} {gl : Nat → Option (List V)} {call : CallF} {base nt : Nat} {quiet : FuncId → Nat}
theorem commB_sep {x y : AOper} (h : commB quiet x y = true) : memO x.dst y.slots = false ∧ memO y.dst x.slots = false ∧ ∀ d, x.dst = some d → y.dst ≠ some d := by
  unfold commB at h
  simp only [Bool.and_eq_true, Bool.not_eq_true'] at h
  obtain ⟨⟨⟨h1, h2⟩, h3⟩, _⟩ := h
  refine ⟨h1, h2, fun d e e2 => ?_⟩
  rw [e, e2] at h3
  simp at h3
theorem lateB_sep {x y : AOper} (h : lateB x y = true) : memO x.dst y.slots = false ∧ memO y.dst x.slots = false ∧ ∀ d, x.dst = some d → y.dst ≠ some d := by
  unfold lateB at h
  simp only [Bool.and_eq_true, Bool.not_eq_true'] at h
  obtain ⟨⟨⟨_, h1⟩, h2⟩, h3⟩ := h
  refine ⟨h1, h2, fun d e e2 => ?_⟩
  rw [e, e2] at h3
  simp at h3
theorem lateB_own {x y : AOper} (h : lateB x y = true) : y.op.lay = true ∧ y.guard = none ∧ y.off = [] ∧ ∃ d, y.dst = some d ∧ memO (some d) y.slots = false := by
  unfold lateB at h
  simp only [Bool.and_eq_true, Bool.not_eq_true', Option.isNone_iff_eq_none, List.isEmpty_iff, Option.isSome_iff_exists] at h
  obtain ⟨⟨⟨⟨⟨⟨⟨h1, h2⟩, h3⟩, ⟨d, h4⟩⟩, h5⟩, _⟩, _⟩, _⟩ := h
  exact ⟨h1, h2, h3, d, h4, by rw [← h4]; exact h5⟩
theorem memO_put {d : Option Nat} {l : List Nat} {en : Env} {v : V} (h : memO d l = false) : ∀ t ∈ l, (en.put d v) t = en t := fun t ht => Env.put_other (memO_false h t ht)
theorem evOps_dst : ∀ {p : List AOper} {en en1 : Env} {h h1 : Heap}, evOps call base p en h = some (en1, h1) → ∀ t, (∀ x ∈ p, x.dst ≠ some t) → en1 t = en t
  | [], _, _, _, _, hs, t, _ => by
    simp only [evOps, Option.some.injEq, Prod.mk.injEq] at hs
    rw [hs.1]
  | x :: p, en, en1, h, h1, hs, t, hx => by
    rw [evOps_cons, Option.bind_eq_some_iff] at hs
    obtain ⟨q, _, e2⟩ := hs
    rw [evOps_dst e2 t fun y hy => hx y (by simp [hy]), Env.put_other (hx x (by simp))]
theorem Env.put_same {en : Env} {d : Nat} {u v : V} : (en.put (some d) u).put (some d) v = en.put (some d) v := by
  funext t
  show (if t = d then v else if t = d then u else en t) = if t = d then v else en t
  split <;> rfl
theorem evOps_put {l : AOper} {r : List AOper} {d : Nat} {u : V} (hl : l.dst = some d) (hls : memO (some d) l.slots = false) :
    ∀ {p : List AOper} {en : Env} {h : Heap}, (∀ x ∈ p, x.dst ≠ some d ∧ memO (some d) x.slots = false) → evOps call base (p ++ l :: r) (en.put (some d) u) h = evOps call base (p ++ l :: r) en h
  | [], en, h, _ => by
    simp only [List.nil_append, evOps_cons]
    rw [evVal_congr (en' := en) (memO_put hls)]
    congr 1
    funext q
    rw [hl, Env.put_same]
  | x :: p, en, h, hp => by
    simp only [List.cons_append, evOps_cons]
    obtain ⟨h1, h2⟩ := hp x (by simp)
    rw [evVal_congr (en' := en) (memO_put h2)]
    congr 1
    funext q
    rw [Env.put_comm (fun c e => by injection e with e; subst e; exact h1)]
    exact evOps_put hl hls fun y hy => hp y (by simp [hy])
theorem evVal_lay {o : AOper} {en : Env} {h : Heap} (hl : o.op.lay = true) (hg : o.guard = none) (ho : o.off = []) : evVal call base o en h = step base en h o.op := by
  unfold evVal
  rw [hg]
  simp only
  unfold evOper
  rw [if_pos (offOk_nil ho en)]
  exact evOp_noCall ⟨fun f a e => by rw [e] at hl; simp [AOp.lay] at hl, fun f a t e => by rw [e] at hl; simp [AOp.lay] at hl⟩
theorem getD_false_lt {listed : Array Bool} {i : Nat} (h : listed.getD i false = true) : i < listed.size := by
  rcases Nat.lt_or_ge i listed.size with h' | h'
  · exact h'
  · simp [Array.getElem?_eq_none h'] at h
theorem getD_true_of {listed : Array Bool} {i : Nat} (h : listed.getD i false = true) : listed.getD i true = true := by
  have := getD_false_lt h
  simp [this] at h ⊢
  exact h
theorem getD_both {listed : Array Bool} {i : Nat} (h : listed.getD i false = true) (k : listed.getD i true = false) : False := by
  rw [getD_true_of h] at k
  simp at k
def Pend (f : Nat → AOper) (G : Tie) (w : World) (h : Heap) (en : Env) (i k : Nat) : Prop :=
  (f i).op.lay = true ∧ (f i).guard = none ∧ (f i).off = [] ∧ ∃ d r mk ob robj, (f i).dst = some d ∧ en d = .sc r ∧ layOf en (f i).op = some (mk, ob) ∧ w.heap[k]? = some robj ∧ G.b0 ≤ k ∧ (∀ c, G.fz k c = none) ∧ G.kp k = false ∧ (∀ b, G.real h b ≠ some k) ∧ TieOk G k robj mk ob r
def Sep (x y : AOper) : Prop := memO x.dst y.slots = false ∧ ∀ d, x.dst = some d → y.dst ≠ some d
structure St (P : Program) (gl : Nat → Option (List V)) (call : CallF) (base nt : Nat) (quiet : FuncId → Nat) (ops : Array Oper) (f : Nat → AOper) (late : Nat → Bool) (listed : Array Bool) (a : Act) (w : World) (en' : Env) (h' : Heap)
    (M : List Nat) (Pd : List (Nat × Nat)) (G : Tie) (en : Env) (h : Heap) : Prop where
  lsz : listed.size = ops.size
  nodup : M.Nodup
  pairs : ∀ x i, [x, i].Sublist M → depB ops.toList ops.toList.length i x = true ∨ commB quiet (f x) (f i) = true ∨ (late i = true ∧ lateB (f x) (f i) = true)
  lates : ∀ i j, [i, j].Sublist M → late i = true → commB quiet (f i) (f j) = true ∨ ∀ x, [x, i].Sublist M → commB quiet (f x) (f i) = true ∨ depB ops.toList ops.toList.length j x = true
  mem : ∀ i, i ∈ M ↔ i < ops.size ∧ (listed.getD i true = false ∨ ∃ k, (i, k) ∈ Pd)
  pend : ∀ i k, (i, k) ∈ Pd → listed.getD i false = true ∧ late i = true ∧ Pend f G w h en i k
  apart : Pd.Pairwise fun p q => p.1 ≠ q.1 ∧ p.2 ≠ q.2 ∧ Sep (f p.1) (f q.1) ∧ Sep (f q.1) (f p.1)
  hgl : GlobOk G gl
  he : RepEnv G en a.tmps
  R : Rel G h w
  hb : base ≤ h.length
  hsz : nt ≤ a.tmps.size
  run : evOps call base (M.map f) en h = some (en', h')
section
variable {ops : Array Oper} {f : Nat → AOper} {late : Nat → Bool} {listed : Array Bool} {a : Act} {w : World} {en' : Env} {h' : Heap} {M : List Nat} {Pd : List (Nat × Nat)} {G : Tie} {en : Env} {h : Heap}
theorem sub_of_mem {p r : List Nat} {x i : Nat} (hx : x ∈ p) : [x, i].Sublist (p ++ i :: r) := by
  obtain ⟨p1, p2, rfl⟩ := List.append_of_mem hx
  simp only [List.append_assoc, List.cons_append]
  refine (List.Sublist.cons_cons x ?_).trans (List.sublist_append_right p1 _)
  exact List.singleton_sublist.2 (by simp)
theorem sub_of_mem2 {p r : List Nat} {y i : Nat} (hy : y ∈ r) : [i, y].Sublist (p ++ i :: r) :=
  (List.Sublist.cons_cons i (List.singleton_sublist.2 hy)).trans (List.sublist_append_right p _)
theorem Pend.put {i k : Nat} {d : Option Nat} {v : V} {G2 : Tie} {w2 : World} {h2 : Heap} (hp : Pend f G w h en i k) (hs : memO d (f i).slots = false ∧ ∀ c, d = some c → (f i).dst ≠ some c) (x : Ext G G2) (hw : w2.heap[k]? = w.heap[k]?)
    (hf : ∀ c, G2.fz k c = none) (hr : ∀ b, G2.real h2 b ≠ some k) : Pend f G2 w2 h2 (en.put d v) i k := by
  obtain ⟨h1, h2, h3, c, r, mk, ob, robj, q1, q2, q3, q4, q5, q6, q7, q8, q9⟩ := hp
  refine ⟨h1, h2, h3, c, r, mk, ob, robj, q1, ?_, ?_, hw.trans q4, by rw [x.b0]; exact q5, hf, by rw [x.kp]; exact q7, hr, q9.ext x⟩
  · rw [Env.put_other (fun e => hs.2 c e q1)]
    exact q2
  · rw [← q3]
    refine layOf_congr fun t ht => Env.put_other (memO_false hs.1 t ?_)
    unfold AOper.slots
    simp [ht]
theorem St.flush (hq : QuietOk quiet call) (S : St P gl call base nt quiet ops f late listed a w en' h' M Pd G en h) {i k : Nat} (hik : (i, k) ∈ Pd) (hx : ∀ x, [x, i].Sublist M → commB quiet (f x) (f i) = true) :
    ∃ M1 Pd1 G1 en1 h1, St P gl call base nt quiet ops f late listed a w en' h' M1 Pd1 G1 en1 h1 ∧ Reach G w h1 w G1 ∧ Pd1.length < Pd.length := by
  obtain ⟨hl, _, p1, p2, p3, d, r, mk, ob, robj, q1, q2, q3, q4, q5, q6, q7, q8, q9⟩ := S.pend i k hik
  have him : i ∈ M := (S.mem i).2 ⟨by have := getD_false_lt hl; rw [S.lsz] at this; exact this, .inr ⟨k, hik⟩⟩
  obtain ⟨p, m, rfl⟩ := List.append_of_mem him
  obtain ⟨Pp, Pr, rfl⟩ := List.append_of_mem hik
  have hcm : ∀ x ∈ p.map f, commB quiet x (f i) = true := by
    intro y hy
    obtain ⟨x, hxp, rfl⟩ := List.mem_map.1 hy
    exact hx x (sub_of_mem hxp)
  have hrun := S.run
  rw [List.map_append, List.map_cons] at hrun
  have hs := front hq hcm hrun
  rw [evOps_cons, evVal_lay p1 p2 p3, lay_step p1, q3, Option.map_some, Option.bind_some, q1] at hs
  obtain ⟨R', hV⟩ := q9 G h w (Ext.refl G) S.R q4 q5 q6 q7 q8
  have x := Ext.newBox G k
  have hap : ∀ q ∈ Pp ++ Pr, i ≠ q.1 ∧ k ≠ q.2 ∧ Sep (f i) (f q.1) ∧ Sep (f q.1) (f i) := by
    have := (List.pairwise_middle (R := fun p q : Nat × Nat => p.1 ≠ q.1 ∧ p.2 ≠ q.2 ∧ Sep (f p.1) (f q.1) ∧ Sep (f q.1) (f p.1)) (fun ⟨h1, h2, h3, h4⟩ => ⟨h1.symm, h2.symm, h4, h3⟩)).1 S.apart
    exact (List.pairwise_cons.1 this).1
  have hsub : (p ++ m).Sublist (p ++ i :: m) := List.Sublist.append_left (List.sublist_cons_self i m) p
  have hni : i ∉ p ++ m := by
    have h1 := List.nodup_append.1 S.nodup
    have h2 := List.nodup_cons.1 h1.2.1
    intro hc
    rcases List.mem_append.1 hc with hc | hc
    · exact h1.2.2 i hc i (by simp) rfl
    · exact h2.1 hc
  have hsubP : (Pp ++ Pr).Sublist (Pp ++ (i, k) :: Pr) := List.Sublist.append_left (List.sublist_cons_self _ _) _
  refine ⟨p ++ m, Pp ++ Pr, G.newBox k, en.put (some d) (mk h.length), h ++ [ob], ⟨S.lsz, S.nodup.sublist hsub, fun y j hyj => S.pairs y j (hyj.trans hsub), fun y j hyj hly => ?_, fun y => ?_, fun y ky hy => ?_, S.apart.sublist hsubP, S.hgl.ext x, fun t => ?_, R', by simp only [List.length_append]; have := S.hb; omega, S.hsz, ?_⟩, ⟨x, R', Bel.refl _ _⟩, by simp⟩
  · rcases S.lates y j (hyj.trans hsub) hly with h1 | h1
    · exact .inl h1
    · exact .inr fun z hz => h1 z (hz.trans hsub)
  · have hm := S.mem y
    by_cases hyi : y = i
    · subst hyi
      constructor
      · intro hc; exact absurd hc hni
      · rintro ⟨_, hc | ⟨k', hc⟩⟩
        · rw [getD_true_of hl] at hc
          simp at hc
        · exact absurd rfl (hap _ hc).1
    · have e1 : y ∈ p ++ m ↔ y ∈ p ++ i :: m := by simp [hyi]
      have e2 : ∀ k', (y, k') ∈ Pp ++ Pr ↔ (y, k') ∈ Pp ++ (i, k) :: Pr := fun k' => by simp [hyi]
      rw [e1, hm]
      simp only [e2]
  · obtain ⟨s1, s2, s3⟩ := S.pend y ky (hsubP.subset hy)
    obtain ⟨a1, a2, a3, a4⟩ := hap _ hy
    refine ⟨s1, s2, s3.put ⟨by rw [← q1]; exact a3.1, fun c e => a3.2 c (by rw [q1]; exact e)⟩ x rfl (fun c => ?_) (fun b hb => ?_)⟩
    · obtain ⟨_, _, _, _, _, _, _, _, _, _, _, _, _, z6, _⟩ := s3
      exact z6 c
    · obtain ⟨_, _, _, _, _, _, _, _, _, _, _, _, _, _, _, z8, _⟩ := s3
      rcases newBox_real S.R.n (layOf_new q3) hb with e | e
      · exact a2 e.symm
      · exact z8 b e
  · show RepV (G.newBox k) (if t = d then mk h.length else en t) _
    split
    · rename_i e
      subst e
      have := S.he t
      rw [q2] at this
      rw [this.sc_inv]
      exact hV
    · exact (S.he t).ext x
  · rw [List.map_append]
    exact hs
theorem St.normal (hq : QuietOk quiet call) : ∀ (n : Nat) {M : List Nat} {Pd : List (Nat × Nat)} {G : Tie} {en : Env} {h : Heap}, Pd.length ≤ n → St P gl call base nt quiet ops f late listed a w en' h' M Pd G en h →
    ∃ M1 Pd1 G1 en1 h1, St P gl call base nt quiet ops f late listed a w en' h' M1 Pd1 G1 en1 h1 ∧ Reach G w h1 w G1 ∧ ∀ i k, (i, k) ∈ Pd1 → ∃ x, [x, i].Sublist M1 ∧ commB quiet (f x) (f i) ≠ true
  | 0, M, Pd, G, en, h, hn, S => by
    have : Pd = [] := by simpa using hn
    subst this
    exact ⟨M, [], G, en, h, S, Reach.refl S.R, fun i k hik => by simp at hik⟩
  | n + 1, M, Pd, G, en, h, hn, S => by
    by_cases hall : ∀ i k, (i, k) ∈ Pd → ∃ x, [x, i].Sublist M ∧ commB quiet (f x) (f i) ≠ true
    · exact ⟨M, Pd, G, en, h, S, Reach.refl S.R, hall⟩
    · obtain ⟨i, hall⟩ := Classical.not_forall.1 hall
      obtain ⟨k, hall⟩ := Classical.not_forall.1 hall
      obtain ⟨hik, hno⟩ := Classical.not_imp.1 hall
      obtain ⟨M1, Pd1, G1, en1, h1, S1, hr, hlt⟩ := S.flush hq hik fun x hx => by
        cases hc : commB quiet (f x) (f i) with
        | true => rfl
        | false => exact absurd ⟨x, hx, by rw [hc]; simp⟩ hno
      obtain ⟨M2, Pd2, G2, en2, h2, S2, hr2, hnorm⟩ := St.normal hq n (by omega) S1
      exact ⟨M2, Pd2, G2, en2, h2, S2, hr.trans hr2, hnorm⟩
end
theorem idx_lt {M : List Nat} (hnd : M.Nodup) {x i : Nat} (h : [x, i].Sublist M) : M.idxOf x < M.idxOf i := by
  induction M with
  | nil => simp at h
  | cons m M ih =>
    obtain ⟨h1, h2⟩ := List.nodup_cons.1 hnd
    cases h with
    | cons _ h =>
      have hx : x ∈ M := h.subset (by simp)
      have hi : i ∈ M := h.subset (by simp)
      have e1 : m ≠ x := fun e => h1 (e ▸ hx)
      have e2 : m ≠ i := fun e => h1 (e ▸ hi)
      have := ih h2 h
      rw [List.idxOf_cons, List.idxOf_cons, beq_eq_false_iff_ne.2 e1, beq_eq_false_iff_ne.2 e2]
      simpa using this
    | cons_cons _ h =>
      have hi : i ∈ M := h.subset (by simp)
      have e2 : x ≠ i := fun e => h1 (e ▸ hi)
      rw [List.idxOf_cons, List.idxOf_cons, beq_eq_false_iff_ne.2 e2]
      simp
theorem anyL_wp (hq : QuietOk quiet call) (hc : CallOk P gl call) {ops : Array Oper} {Q : Exit → Act → World → Prop} {f : Nat → AOper} {late : Nat → Bool} {en' : Env} {h' : Heap}
    (hf : ∀ (i : Nat) (o : Oper), ops[i]? = some o → Serves P gl nt ops.toList o (f i) ∧ ((f i).op.lay = true → compOper P gl nt ops.toList o = some (f i)))
    (hback : ∀ (i : Nat) (o : Oper), ops[i]? = some o → ∀ e ∈ o.after, Region.binds .any e = true → e.on < i) :
    ∀ (fuel : Nat) (listed : Array Bool) (U : List Nat) {a : Act} {w : World} {M : List Nat} {Pd : List (Nat × Nat)} {G : Tie} {en : Env} {h : Heap},
      St P gl call base nt quiet ops f late listed a w en' h' M Pd G en h → U.length ≤ fuel → (∀ i, i < ops.size → listed.getD i true = false → i ∈ U) →
      (∀ (i : Nat) (o : Oper), ops[i]? = some o → listed.getD i false = true → ∀ e ∈ o.after, Region.binds .any e = true → listed.getD e.on false = true) →
      (∀ a' w' G', Reach G w h' w' G' → RepEnv G' en' a'.tmps → a'.tmps.size = a.tmps.size → a'.defers = a.defers → Q .normal a' w') → wpAny P .any ops Q fuel listed a w := by
  intro fuel
  have done : ∀ (listed : Array Bool) {a : Act} {w : World} {M : List Nat} {Pd : List (Nat × Nat)} {G : Tie} {en : Env} {h : Heap}, St P gl call base nt quiet ops f late listed a w en' h' M Pd G en h →
      (∀ i k, (i, k) ∈ Pd → ∃ x, [x, i].Sublist M ∧ commB quiet (f x) (f i) ≠ true) → Region.ready .any ops listed = [] → M = [] := by
    intro listed a w M Pd G en h S hnorm hr
    have hun : ∀ i ∈ M, listed.getD i true ≠ false := by
      intro i hi hil
      obtain ⟨m, hmM, hleast⟩ := least_mem (M := M.filter fun i => !listed.getD i true) (fun e => by
        have : i ∈ M.filter fun i => !listed.getD i true := List.mem_filter.2 ⟨hi, by rw [hil]; rfl⟩
        rw [e] at this
        simp at this)
      simp only [List.mem_filter, Bool.not_eq_true'] at hmM hleast
      obtain ⟨hm, hml⟩ := hmM
      have hms := ((S.mem m).1 hm).1
      have : m ∈ Region.ready .any ops listed := by
        rw [mem_ready]
        refine ⟨hml, ops[m], Array.getElem?_eq_getElem hms, fun e he hb => ?_⟩
        have hlt := hback m _ (Array.getElem?_eq_getElem hms) e he hb
        cases hv : listed.getD e.on false with
        | true => rfl
        | false =>
          exfalso
          have hel : listed.getD e.on true = false := by
            have : e.on < listed.size := by rw [S.lsz]; omega
            simp [this] at hv ⊢
            exact hv
          have := hleast _ ⟨(S.mem e.on).2 ⟨by omega, .inl hel⟩, hel⟩
          omega
      rw [hr] at this
      simp at this
    cases M with
    | nil => rfl
    | cons i r =>
      exfalso
      have hi := (S.mem i).1 (by simp)
      rcases hi.2 with h1 | ⟨k, h1⟩
      · exact hun i (by simp) h1
      · obtain ⟨x, hx, _⟩ := hnorm i k h1
        have := idx_lt S.nodup hx
        simp at this
  induction fuel with
  | zero =>
    intro listed U a w M Pd G en h S hU hUm down hQ
    have hr : Region.ready .any ops listed = [] := by
      refine List.eq_nil_iff_forall_not_mem.2 fun i hi => ?_
      rw [mem_ready] at hi
      have hlt := getD_true_lt hi.1
      rw [S.lsz] at hlt
      have := hUm i hlt hi.1
      have hU0 : U = [] := by simpa using hU
      rw [hU0] at this
      simp at this
    obtain ⟨M1, Pd1, G1, en1, h1, S1, hreach, hnorm⟩ := S.normal hq _ (Nat.le_refl _)
    have hM := done listed S1 hnorm hr
    have hs := S1.run
    rw [hM] at hs
    simp only [List.map_nil, evOps, Option.some.injEq, Prod.mk.injEq] at hs
    obtain ⟨rfl, rfl⟩ := hs
    exact ⟨hr, hQ a w G1 hreach S1.he rfl rfl⟩
  | succ fuel ih =>
    intro listed U a w M0 Pd0 G0 en0 h0 S0 hU hUm down hQ
    obtain ⟨M, Pd, G, en, h, S, hreach0, hnorm⟩ := S0.normal hq _ (Nat.le_refl _)
    refine ⟨fun hr => ?_, fun i hi => ?_⟩
    · have hM := done listed S hnorm hr
      have hs := S.run
      rw [hM] at hs
      simp only [List.map_nil, evOps, Option.some.injEq, Prod.mk.injEq] at hs
      obtain ⟨rfl, rfl⟩ := hs
      exact hQ a w G hreach0 S.he rfl rfl
    obtain ⟨hil, o, ho, hall⟩ := mem_ready.1 hi
    have hisz : i < ops.size := by have := getD_true_lt hil; rw [S.lsz] at this; exact this
    have him := (S.mem i).2 ⟨hisz, .inl hil⟩
    obtain ⟨p, r, rfl⟩ := List.append_of_mem him
    -- what waits is listed
    have hdep : ∀ x, depB ops.toList ops.toList.length i x = true → listed.getD x false = true := fun x hd => depB_listed down _ _ _ o ho hall hd
    have hdep2 : ∀ y k x, (y, k) ∈ Pd → depB ops.toList ops.toList.length y x = true → listed.getD x false = true := fun y k x hy hd => by
      obtain ⟨hyl, _, _⟩ := S.pend y k hy
      have hys := getD_false_lt hyl
      rw [S.lsz] at hys
      exact depB_listed down _ _ _ _ (Array.getElem?_eq_getElem hys) (down y _ (Array.getElem?_eq_getElem hys) hyl) hd
    have hpl : ∀ x, x ∈ p ++ i :: r → listed.getD x false = true → ∃ k, (x, k) ∈ Pd := fun x hx hxl => by
      rcases ((S.mem x).1 hx).2 with h1 | h1
      · exact (getD_both hxl h1).elim
      · exact h1
    have hA : ∀ x ∈ p, listed.getD x true = false → commB quiet (f x) (f i) = true ∨ (late i = true ∧ lateB (f x) (f i) = true) := by
      intro x hx hxl
      rcases S.pairs x i (sub_of_mem hx) with h1 | h1 | h1
      · exact (getD_both (hdep x h1) hxl).elim
      · exact .inl h1
      · exact .inr h1
    have hB : ∀ x k, (x, k) ∈ Pd → x ∈ p → commB quiet (f x) (f i) = true := by
      intro x k hxk hxp
      cases hcx : commB quiet (f x) (f i) with
      | true => rfl
      | false =>
        exfalso
        -- one whose obstacles are all waiting themselves, the first of them
        have key : ∀ (n : Nat) (y ky : Nat), (p ++ i :: r).idxOf y = n → (y, ky) ∈ Pd → (∀ z, [z, y].Sublist (p ++ i :: r) → commB quiet (f z) (f y) = true ∨ ∃ kz, (z, kz) ∈ Pd) → False := by
          intro n
          induction n using Nat.strongRecOn with
          | _ n ihn =>
            intro y ky hn hy hob
            obtain ⟨z, hz, hzc⟩ := hnorm y ky hy
            rcases hob z hz with h1 | ⟨kz, h1⟩
            · exact hzc h1
            · refine ihn _ (by rw [← hn]; exact idx_lt S.nodup hz) z kz rfl h1 fun u hu => ?_
              rcases S.lates z y hz (S.pend z kz h1).2.1 with h2 | h2
              · exact absurd h2 hzc
              · rcases h2 u hu with h3 | h3
                · exact .inl h3
                · exact .inr (hpl u (hu.subset (by simp)) (hdep2 y ky u hy h3))
        refine key _ x k rfl hxk fun u hu => ?_
        rcases S.lates x i (sub_of_mem hxp) (S.pend x k hxk).2.1 with h2 | h2
        · rw [hcx] at h2; simp at h2
        · rcases h2 u hu with h3 | h3
          · exact .inl h3
          · exact .inr (hpl u (hu.subset (by simp)) (hdep u h3))
    have hsepP : ∀ x ∈ p, memO (f x).dst (f i).slots = false ∧ memO (f i).dst (f x).slots = false ∧ ∀ d, (f x).dst = some d → (f i).dst ≠ some d := by
      intro x hx
      rcases ((S.mem x).1 (by simp [hx])).2 with h1 | ⟨k, h1⟩
      · rcases hA x hx h1 with h2 | ⟨_, h2⟩
        · exact commB_sep h2
        · exact lateB_sep h2
      · exact commB_sep (hB x k h1 hx)
    have hsep : ∀ y k, (y, k) ∈ Pd → memO (f i).dst (f y).slots = false ∧ memO (f y).dst (f i).slots = false ∧ (∀ d, (f i).dst = some d → (f y).dst ≠ some d) ∧ y ≠ i := by
      intro y k hy
      have hyl := (S.pend y k hy).1
      have hne : y ≠ i := fun e => getD_both (e ▸ hyl) hil
      have hym : y ∈ p ++ i :: r := (S.mem y).2 ⟨by have := getD_false_lt hyl; rw [S.lsz] at this; exact this, .inr ⟨k, hy⟩⟩
      rcases List.mem_append.1 hym with h1 | h1
      · obtain ⟨q1, q2, q3⟩ := hsepP y h1
        exact ⟨q2, q1, fun d e e2 => q3 d e2 e, hne⟩
      · rcases List.mem_cons.1 h1 with h1 | h1
        · exact absurd h1 hne
        · rcases S.pairs i y (sub_of_mem2 h1) with h2 | h2 | ⟨_, h2⟩
          · exact (getD_both (hdep2 y k i hy h2) hil).elim
          · obtain ⟨q1, q2, q3⟩ := commB_sep h2
            exact ⟨q1, q2, q3, hne⟩
          · obtain ⟨q1, q2, q3⟩ := lateB_sep h2
            exact ⟨q1, q2, q3, hne⟩
    have hUm' : ∀ x, x < ops.size → (listed.setIfInBounds i true).getD x true = false → x ∈ U.erase i := by
      intro x hx hxl
      have hne : i ≠ x := by
        rintro rfl
        have : i < listed.size := by rw [S.lsz]; exact hisz
        simp [this] at hxl
      rw [getD_set_ne true hne] at hxl
      exact (List.mem_erase_of_ne (Ne.symm hne)).2 (hUm x hx hxl)
    have hUl : (U.erase i).length ≤ fuel := by
      rw [List.length_erase_of_mem (hUm i hisz hil)]
      omega
    have hdown' : ∀ (j : Nat) (oj : Oper), ops[j]? = some oj → (listed.setIfInBounds i true).getD j false = true → ∀ e ∈ oj.after, Region.binds .any e = true → (listed.setIfInBounds i true).getD e.on false = true := by
      intro x ox hox hxl e hm hbd
      by_cases hx : i = x
      · subst hx
        rw [ho] at hox
        injection hox with hox
        subst hox
        exact getD_set_true (hall e hm hbd)
      · rw [getD_set_ne false hx] at hxl
        exact getD_set_true (down x ox hox hxl e hm hbd)
    have hlsz : (listed.setIfInBounds i true).size = ops.size := by simpa using S.lsz
    have hni : i ∉ p ++ r := by
      have h1 := List.nodup_append.1 S.nodup
      have h2 := List.nodup_cons.1 h1.2.1
      intro hc
      rcases List.mem_append.1 hc with hc | hc
      · exact h1.2.2 i hc i (by simp) rfl
      · exact h2.1 hc
    have hfi := hf i o ho
    by_cases hcm : ∀ x ∈ p, commB quiet (f x) (f i) = true
    · -- its turn comes
      have hrun := S.run
      rw [List.map_append, List.map_cons] at hrun
      have hs2 := front hq (p := p.map f) (fun y hy => by obtain ⟨x, hx, rfl⟩ := List.mem_map.1 hy; exact hcm x hx) hrun
      rw [evOps_cons, Option.bind_eq_some_iff] at hs2
      obtain ⟨⟨v, h1⟩, e1, e2⟩ := hs2
      have hF : ∀ k, (G.kp k || Pd.any fun q => q.2 == k) = true → k < w.heap.size ∧ (∀ c, G.fz k c = none) ∧ ∀ b, G.real h b ≠ some k := by
        intro k hk
        rw [Bool.or_eq_true, List.any_eq_true] at hk
        rcases hk with hk | ⟨⟨y, ky⟩, hy, hk⟩
        · exact S.R.kp k hk
        · simp only [beq_iff_eq] at hk
          subst hk
          obtain ⟨_, _, _, _, _, _, _, _, _, _, _, _, _, z4, _, z6, _, z8, _⟩ := S.pend y ky hy
          exact ⟨(Array.getElem?_eq_some_iff.1 z4).1, z6, z8⟩
      refine one_wp (G := G.withKp fun k => G.kp k || Pd.any fun q => q.2 == k) hc ho hfi.1 (fun g cs e => (S.hgl g cs e).ext0 (Ext0.addKp G _)) (S.he.ext0 (Ext0.addKp G _)) (S.R.withKp hF) S.hb S.hsz e1 fun a' w' G' hreach hb' he' q1 q2 => ?_
      have hkp' : ∀ k, G.kp k = true → G'.kp k = true := fun k hk => by
        rw [hreach.ext.kp]
        simp [Tie.withKp, hk]
      have hkpP : ∀ y k, (y, k) ∈ Pd → G'.kp k = true := fun y k hy => by
        rw [hreach.ext.kp]
        simp only [Tie.withKp, Bool.or_eq_true, List.any_eq_true, beq_iff_eq]
        exact .inr ⟨(y, k), hy, rfl⟩
      have x2 : Ext G (G'.withKp G.kp) := ⟨((Ext0.addKp G _).trans hreach.ext.toExt0).trans (Ext0.addKp G' _), rfl⟩
      have hR2 : Rel (G'.withKp G.kp) h1 w' := hreach.rel.withKp fun k hk => hreach.rel.kp k (hkp' k hk)
      have hreach2 : Reach G w h1 w' (G'.withKp G.kp) := ⟨x2, hR2, hreach.below.bel, fun k hk => hreach.below.kept k (by simp [Tie.withKp, hk])⟩
      have hsub : (p ++ r).Sublist (p ++ i :: r) := List.Sublist.append_left (List.sublist_cons_self i r) p
      refine ih (listed.setIfInBounds i true) (U.erase i) (M := p ++ r) (Pd := Pd) (G := G'.withKp G.kp) (en := en.put (f i).dst v) (h := h1) ⟨hlsz, S.nodup.sublist hsub, fun y j hyj => S.pairs y j (hyj.trans hsub), fun y j hyj hly => ?_, fun y => ?_, fun y ky hy => ?_, S.apart, S.hgl.ext x2, he'.ext0 (Ext0.addKp G' _), hR2, hb', by have := S.hsz; omega, by rw [List.map_append]; exact e2⟩ hUl hUm' hdown' fun a'' w'' G'' hr2 he'' r1 r2 => hQ a'' w'' G'' ((hreach0.trans hreach2).trans hr2) he'' (r1.trans q1) (r2.trans q2)
      · rcases S.lates y j (hyj.trans hsub) hly with g1 | g1
        · exact .inl g1
        · exact .inr fun z hz => g1 z (hz.trans hsub)
      · by_cases hyi : i = y
        · subst hyi
          constructor
          · intro hc; exact absurd hc hni
          · rintro ⟨_, hc | ⟨k, hc⟩⟩
            · have : i < listed.size := by rw [S.lsz]; exact hisz
              simp [this] at hc
            · exact absurd rfl (hsep i k hc).2.2.2
        · rw [getD_set_ne true hyi, ← S.mem y]
          have : y ≠ i := fun e => hyi e.symm
          simp [this]
      · obtain ⟨s1, s2, s3⟩ := S.pend y ky hy
        obtain ⟨t1, _, t3, _⟩ := hsep y ky hy
        obtain ⟨k1, k2, k3⟩ := hreach.rel.kp ky (hkpP y ky hy)
        exact ⟨getD_set_true s1, s2, s3.put ⟨t1, t3⟩ x2 (hreach.below.kept ky (by rw [← hreach.ext.kp]; exact hkpP y ky hy)) k2 k3⟩
    · -- its block is laid before its turn
      obtain ⟨x0, hcm⟩ := Classical.not_forall.1 hcm
      obtain ⟨hx0, hcm⟩ := Classical.not_imp.1 hcm
      have hlate : late i = true ∧ lateB (f x0) (f i) = true := by
        rcases ((S.mem x0).1 (by simp [hx0])).2 with g1 | ⟨k, g1⟩
        · rcases hA x0 hx0 g1 with g2 | g2
          · exact absurd g2 hcm
          · exact g2
        · exact absurd (hB x0 k g1 hx0) hcm
      obtain ⟨l1, l2, l3, d, l4, l5⟩ := lateB_own hlate.2
      have hrun := S.run
      rw [List.map_append, List.map_cons] at hrun
      have hrun2 := hrun
      rw [evOps_append, Option.bind_eq_some_iff] at hrun2
      obtain ⟨⟨enp, hp⟩, e1, e2⟩ := hrun2
      rw [evOps_cons, evVal_lay l1 l2 l3, lay_step l1] at e2
      obtain ⟨⟨mk, ob⟩, elay⟩ : ∃ q, layOf enp (f i).op = some q := by
        cases hq : layOf enp (f i).op with
        | none => rw [hq] at e2; simp at e2
        | some q => exact ⟨q, rfl⟩
      have elay' : layOf en (f i).op = some (mk, ob) := by
        rw [← elay]
        refine layOf_congr fun t ht => (evOps_dst e1 t fun x hx => ?_).symm
        obtain ⟨y, hy, rfl⟩ := List.mem_map.1 hx
        exact memO_false (hsepP y hy).1 t (by unfold AOper.slots; simp [ht])
      obtain ⟨rv, robj, hexec, h1c, htie⟩ := lay_run S.hgl S.he S.R (hfi.2 l1) l1 elay'
      obtain ⟨_, hdst, hdlt, hguard⟩ := compOper_inv (hfi.2 l1)
      rw [l4] at hdst
      unfold wpOp
      simp only [ho]
      have hw : Region.wanted o (yielded ops a.tmps) = true := by
        rcases hguard with ⟨g1, _⟩ | ⟨j, want, d', _, g2, _⟩
        · unfold Region.wanted; rw [g1]
        · rw [l2] at g2; simp at g2
      rw [if_pos hw]
      left
      unfold Oper.wp
      rw [hexec]
      show wpAny P .any ops Q fuel (listed.setIfInBounds i true) (a.put o.dst rv) (w.alloc robj)
      rw [← hdst]
      have hsize : ∀ k, k < w.heap.size → (w.alloc robj).heap[k]? = w.heap[k]? := fun k hk => heap_alloc_lt w robj k hk
      have hR2 : Rel G h (w.alloc robj) := S.R.world (by simp) hsize
      have hreach2 : Reach G w h (w.alloc robj) G := ⟨Ext.refl G, hR2, bel_alloc S.R robj⟩
      obtain ⟨p1, p2, p3⟩ := put_env (a := a) (dst := some d) S.he (fun c e => by rw [hdst] at e; exact hdlt c e) S.hsz (v := .sc rv) (r := rv) (by simp only [RepV]; exact ⟨trivial, h1c⟩)
      refine ih (listed.setIfInBounds i true) (U.erase i) (M := p ++ i :: r) (Pd := (i, w.heap.size) :: Pd) (G := G) (en := en.put (some d) (.sc rv)) (h := h) ⟨hlsz, S.nodup, S.pairs, S.lates, fun y => ?_, fun y ky hy => ?_, ?_, S.hgl, p1, hR2, S.hb, by rw [p2]; exact S.hsz, ?_⟩ hUl hUm' hdown' fun a'' w'' G'' hr2 he'' r1 r2 => hQ a'' w'' G'' ((hreach0.trans hreach2).trans hr2) he'' (r1.trans p2) (r2.trans p3)
      · rw [S.mem y]
        by_cases hyi : i = y
        · subst hyi
          simp [hisz, hil]
        · have : y ≠ i := fun e => hyi e.symm
          rw [getD_set_ne true hyi]
          simp [this]
      · rcases List.mem_cons.1 hy with e | hy
        · injection e with e3 e4
          subst e3; subst e4
          refine ⟨by have : y < listed.size := by rw [S.lsz]; exact hisz
                     simp [this], hlate.1, l1, l2, l3, d, rv, mk, ob, robj, l4, ?_, ?_, heap_alloc_eq w robj, S.R.hb0, S.R.fz_new, S.R.kp_new, fun b e => by have := S.R.lt e; omega, htie⟩
          · show (if d = d then V.sc rv else en d) = .sc rv
            rw [if_pos rfl]
          · rw [← elay']
            exact layOf_congr fun t ht => Env.put_other (memO_false l5 t (by unfold AOper.slots; simp [ht]))
        · obtain ⟨s1, s2, s3⟩ := S.pend y ky hy
          obtain ⟨t1, _, t3, _⟩ := hsep y ky hy
          have s3' := s3
          obtain ⟨_, _, _, _, _, _, _, _, _, _, _, z4, _, z6, _, z8, _⟩ := s3'
          exact ⟨getD_set_true s1, s2, s3.put ⟨by rw [← l4]; exact t1, fun c e => t3 c (by rw [l4]; exact e)⟩ (Ext.refl G) (hsize ky (Array.getElem?_eq_some_iff.1 z4).1) z6 z8⟩
      · refine List.Pairwise.cons (fun ⟨y, ky⟩ hy => ?_) S.apart
        obtain ⟨t1, t2, t3, t4⟩ := hsep y ky hy
        obtain ⟨_, _, _, _, _, _, _, _, _, _, _, _, _, z4, _⟩ := S.pend y ky hy
        have := (Array.getElem?_eq_some_iff.1 z4).1
        exact ⟨t4.symm, by simp only; omega, ⟨t1, t3⟩, t2, fun c e e2 => t3 c e2 e⟩
      · rw [List.map_append, List.map_cons, evOps_put l4 l5 (fun x hx => ?_)]
        · exact hrun
        · obtain ⟨y, hy, rfl⟩ := List.mem_map.1 hx
          obtain ⟨g1, g2, g3⟩ := hsepP y hy
          exact ⟨fun e => g3 d e l4, by rw [← l4]; exact g2⟩
end
end
section
open Go.RowKit (Below)
section
variable {P : Program} {gl : Nat → Option (List V)} {call : CallF} {base n nt : Nat}
theorem Stands.plain (y : AOper) : Stands y y.plain := by
  refine ⟨rfl, rfl, fun call base en h r hs => ?_⟩
  obtain ⟨dst, op, g, off⟩ := y
  cases op
  case callK f args ts =>
    obtain ⟨ho, he⟩ := evOper_inv hs
    refine evOper_of ?_ ?_
    · simp only [offOk, AOper.plain, AOp.plain, List.all_eq_true] at ho ⊢
      intro t ht
      have := ho t ht
      revert this
      cases blockOf (en t) with
      | none => exact id
      | some b =>
        simp only [List.all_eq_true]
        intro hall x hx
        refine hall x ?_
        simp only [AOp.opds, List.mem_cons, List.mem_append] at hx ⊢
        rcases hx with hx | hx
        · exact .inl hx
        · exact .inr (.inl hx)
    · simp only [evOp] at he
      simp only [AOper.plain, AOp.plain, evOp]
      cases e1 : zr (f.get en) (zh en args) with
      | none => rw [e1] at he; simp at he
      | some p =>
        obtain ⟨k, vs⟩ := p
        rw [e1] at he
        simp only at he ⊢
        split at he
        · rename_i v h' e2
          split at he
          · rw [e2]; exact he
          · simp at he
        · simp at he
  all_goals exact hs
theorem keep_of {en : Env} {h h' : Heap} {f : Opd} {args : List Opd} {ts : List Nat} {v : V} (hs : evOp call base en h (.callK f args ts) = some (v, h')) : ∀ t ∈ ts, ∀ b, blockOf (en t) = some b → h'[b]? = h[b]? := by
  simp only [evOp] at hs
  split at hs
  · split at hs
    · split at hs
      · rename_i hk
        simp only [Option.some.injEq, Prod.mk.injEq] at hs
        obtain ⟨rfl, rfl⟩ := hs
        intro t ht b hb
        have := List.all_eq_true.1 hk t ht
        rw [hb] at this
        exact ((eqOO_iff _ _).1 this).symm
      · simp at hs
    · simp at hs
  · simp at hs
theorem evOps_other {t : Nat} : ∀ {p : List AOper} {en en1 : Env} {h h1 : Heap}, (∀ z ∈ p, z.dst ≠ some t) → evOps call base p en h = some (en1, h1) → en1 t = en t
  | [], en, en1, h, h1, _, hs => by
    simp only [evOps, Option.some.injEq, Prod.mk.injEq] at hs
    rw [hs.1]
  | x :: p, en, en1, h, h1, hz, hs => by
    rw [evOps_cons, Option.bind_eq_some_iff] at hs
    obtain ⟨⟨v, h2⟩, _, e2⟩ := hs
    rw [evOps_other (fun z hz' => hz z (by simp [hz'])) e2]
    exact Env.put_other (hz x (by simp))
theorem mem_slots_plain {y : AOper} : ∀ t ∈ y.plain.slots, t ∈ y.slots := by
  obtain ⟨dst, op, g, off⟩ := y
  cases op
  case callK f args ts =>
    intro t ht
    simp only [AOper.slots, AOper.plain, AOp.plain, List.mem_append] at ht ⊢
    rcases ht with (ht | ht) | ht
    · exact .inl (.inl ht)
    · refine .inl (.inr ?_)
      refine opdTmps_sub (fun x hx => ?_) t ht
      simp only [AOp.opds, List.mem_cons, List.mem_append] at hx ⊢
      rcases hx with hx | hx
      · exact .inl hx
      · exact .inr (.inl hx)
    · exact .inr ht
  all_goals exact fun t ht => ht
theorem memO_sub {d : Option Nat} {l m : List Nat} (h : ∀ t ∈ l, t ∈ m) (hm : memO d m = false) : memO d l = false := by
  cases d with
  | none => rfl
  | some d =>
    simp only [memO] at hm ⊢
    rw [← Bool.not_eq_true] at hm ⊢
    intro q
    exact hm (by simpa using h d (by simpa using q))
theorem sepK {quiet : FuncId → Nat} {x y : AOper} {f : Opd} {args : List Opd} {ts : List Nat} (hy : y.op = .callK f args ts) (hc : commB quiet x y = true ∨ commK x y = true) :
    memO x.dst y.plain.slots = false ∧ memO y.dst x.slots = false ∧ (∀ d, x.dst = some d → y.dst ≠ some d) ∧ (x.op.inertQ quiet = true ∨ (x.op.reads = true ∧ (∀ z ∈ x.op.opds, coverB ts z = true) ∧ memO x.dst (opdTmps x.op.opds) = false)) := by
  have nd : (match x.dst, y.dst with | some a, some b => a != b | _, _ => true) = true → ∀ d, x.dst = some d → y.dst ≠ some d := by
    intro hd d e1 e2
    rw [e1, e2] at hd
    simp at hd
  rcases hc with hc | hc
  · simp only [commB, hy, Bool.and_eq_true, Bool.not_eq_true', Bool.or_eq_true] at hc
    obtain ⟨⟨⟨h1, h2⟩, h3⟩, h4⟩ := hc
    refine ⟨memO_sub mem_slots_plain h1, h2, nd h3, ?_⟩
    rcases h4 with (h4 | h4) | ⟨_, (h4 | h4) | h4⟩
    · exact .inl h4
    · simp [AOp.inertQ, AOp.inert] at h4
    · simp [AOp.reads, AOp.inert] at h4
    · simp [AOp.grows] at h4
    · simp [AOper.clear, hy] at h4
  · simp only [commK, hy, Bool.and_eq_true, Bool.not_eq_true', Bool.or_eq_true, List.all_eq_true] at hc
    obtain ⟨⟨⟨⟨h1, h2⟩, h3⟩, h4⟩, h5⟩ := hc
    refine ⟨h1, h2, nd h3, ?_⟩
    rcases h5 with h5 | ⟨h5, h6⟩
    · left
      unfold AOp.inertQ
      split
      · rename_i e; rw [e] at h5; simp [AOp.inert] at h5
      · rename_i e; rw [e] at h5; simp [AOp.inert] at h5
      · exact h5
    · exact .inr ⟨h4, h5, h6⟩
theorem frontK {quiet : FuncId → Nat} (hq : QuietOk quiet call) {y : AOper} {f : Opd} {args : List Opd} {ts : List Nat} (hy : y.op = .callK f args ts) {v : V} {h0 h1 : Heap} :
    ∀ {p : List AOper} {en en1 : Env} {h : Heap}, (∀ x ∈ p, commB quiet x y = true ∨ commK x y = true) → p.Pairwise (fun x z => stayB x z = true) → evOps call base p en h = some (en1, h0) → evVal call base y en1 h0 = some (v, h1) →
      h0 = h ∧ evVal call base y.plain en h = some (v, h1) ∧ evOps call base p (en.put y.dst v) h1 = some (en1.put y.dst v, h1)
  | [], en, en1, h, _, _, hs, he => by
    simp only [evOps, Option.some.injEq, Prod.mk.injEq] at hs
    obtain ⟨rfl, rfl⟩ := hs
    exact ⟨rfl, (Stands.plain y).val he, rfl⟩
  | x :: p, en, en1, h, hc, hst, hs, he => by
    have keep : ∀ t ∈ ts, ∀ b o, blockOf (en1 t) = some b → h0[b]? = some o → h1[b]? = some o := by
      intro t ht b o hb ho
      rcases evVal_inv he with ⟨_, e⟩ | ⟨_, _, rfl⟩
      · have e := (evOper_inv e).2
        rw [hy] at e
        rw [keep_of e t ht b hb, ho]
      · exact ho
    have hs' := hs
    rw [evOps_cons, Option.bind_eq_some_iff] at hs
    obtain ⟨⟨u, hx⟩, e1, e2⟩ := hs
    obtain ⟨s1, s2, s3, s4⟩ := sepK hy (hc x (by simp))
    have same : hx = h := by
      rcases s4 with s4 | ⟨s4, _⟩
      · exact (evVal_inertQ hq s4 e1).1
      · exact (evVal_reads s4 e1).1
    subst same
    obtain ⟨rfl, i2, i3⟩ := frontK hq hy (fun z hz => hc z (by simp [hz])) (List.pairwise_cons.1 hst).2 e2 he
    refine ⟨rfl, ?_, ?_⟩
    · rw [← i2]
      exact evVal_congr fun t ht => (Env.put_other (memO_false s1 t ht)).symm
    · rw [evOps_cons, Option.bind_eq_some_iff]
      refine ⟨(u, h1), ?_, by rw [Env.put_comm (fun d e1 e2 => s3 d e2 e1)]; exact i3⟩
      have cx : evVal call base x (en.put y.dst v) h1 = evVal call base x en h1 := evVal_congr fun t ht => Env.put_other (memO_false s2 t ht)
      rw [cx]
      rcases s4 with s4 | ⟨s4, s5, s6⟩
      · exact (evVal_inertQ hq s4 e1).2 h1
      · by_cases hin : x.op.inert = true
        · exact (evVal_inert hin e1).2 h1
        refine (evVal_reads s4 e1).2 h1 fun b o' hf _ hb => ?_
        obtain ⟨z, hz, ez⟩ := hf
        have hcov := s5 z hz
        cases z with
        | val w => simp only [coverB, Opd.get] at hcov ez; rw [ez] at hcov; simp at hcov
        | qtmp qs t => simp [coverB] at hcov
        | tmp t =>
          simp only [coverB, List.contains_eq_mem, decide_eq_true_eq] at hcov
          simp only [Opd.get] at ez
          refine keep t hcov b o' ?_ hb
          rw [← ez]
          congr 1
          have htm : t ∈ opdTmps x.op.opds := mem_opdTmps.2 (.inl hz)
          refine evOps_other (p := x :: p) (fun w hw => ?_) hs'
          rcases List.mem_cons.1 hw with rfl | hw
          · exact memO_false s6 t htm
          · have := (List.pairwise_cons.1 hst).1 w hw
            simp only [stayB, Bool.or_eq_true, Bool.not_eq_true'] at this
            rcases this with (h5 | h5) | h5
            · exact absurd h5 hin
            · rw [s4] at h5; simp at h5
            · exact memO_false h5 t htm
theorem front2 {quiet : FuncId → Nat} (hq : QuietOk quiet call) {y : AOper} {r p : List AOper} {en : Env} {h : Heap} {z : Env × Heap} (hc : ∀ x ∈ p, commB quiet x y = true ∨ commK x y = true) (hst : p.Pairwise (fun x z => stayB x z = true)) (hs : evOps call base (p ++ y :: r) en h = some z) :
    ∃ v h1, evVal call base y.plain en h = some (v, h1) ∧ evOps call base (p ++ r) (en.put y.plain.dst v) h1 = some z := by
  have other : y.plain = y → (∀ x ∈ p, commB quiet x y = true) → ∃ v h1, evVal call base y.plain en h = some (v, h1) ∧ evOps call base (p ++ r) (en.put y.plain.dst v) h1 = some z := by
    intro e hc
    have := front hq hc hs
    rw [evOps_cons, Option.bind_eq_some_iff] at this
    obtain ⟨⟨v, h1⟩, e1, e2⟩ := this
    rw [e]
    exact ⟨v, h1, e1, e2⟩
  cases hop : y.op
  case callK f args ts =>
    rw [evOps_append, Option.bind_eq_some_iff] at hs
    obtain ⟨⟨en1, h0⟩, e1, e2⟩ := hs
    rw [evOps_cons, Option.bind_eq_some_iff] at e2
    obtain ⟨⟨v, h1⟩, e2, e3⟩ := e2
    obtain ⟨rfl, i2, i3⟩ := frontK hq hop hc hst e1 e2
    refine ⟨v, h1, i2, ?_⟩
    rw [evOps_append]
    show (evOps call base p (en.put y.dst v) h1).bind _ = some z
    rw [i3]
    exact e3
  all_goals
    refine other ?_ fun x hx => ?_
    · obtain ⟨dst, op, g, off⟩ := y
      simp only at hop
      subst hop
      rfl
    · rcases hc x hx with h1 | h1
      · exact h1
      · simp [commK, hop] at h1
def PairsOkK (quiet : FuncId → Nat) (ops : List Oper) (f : Nat → AOper) (M : List Nat) : Prop :=
  (M.Pairwise fun x i => depB ops ops.length i x = true ∨ commB quiet (f x) (f i) = true ∨ commK (f x) (f i) = true) ∧ M.Pairwise fun x i => stayB (f x) (f i) = true
theorem okPairsK_spec {quiet : FuncId → Nat} {ops : List Oper} {l : List AOper} : ∀ {pi : List Nat}, okPairsK quiet ops l pi = true → PairsOkK quiet ops (fun i => l.getD i default) pi
  | [], _ => ⟨List.Pairwise.nil, List.Pairwise.nil⟩
  | x :: r, h => by
    simp only [okPairsK, Bool.and_eq_true, List.all_eq_true, Bool.or_eq_true] at h
    obtain ⟨h1, h2⟩ := h
    obtain ⟨i1, i2⟩ := okPairsK_spec h2
    refine ⟨List.Pairwise.cons (fun i hi => ?_) i1, List.Pairwise.cons (fun i hi => (h1 i hi).2) i2⟩
    rcases (h1 i hi).1 with (h3 | h3) | h3
    · exact .inl h3
    · exact .inr (.inl h3)
    · exact .inr (.inr h3)
theorem any_wpK {quiet : FuncId → Nat} (hq : QuietOk quiet call) (hc : CallOk P gl call) {ops : Array Oper} {Q : Exit → Act → World → Prop} {f : Nat → AOper}
    (hf : ∀ (i : Nat) (o : Oper), ops[i]? = some o → Serves P gl nt ops.toList o (f i).plain)
    (hback : ∀ (i : Nat) (o : Oper), ops[i]? = some o → ∀ e ∈ o.after, Region.binds .any e = true → e.on < i) :
    ∀ (fuel : Nat) (listed : Array Bool) (M : List Nat) {G : Tie} {en en' : Env} {h h' : Heap} {a : Act} {w : World},
      M.Nodup → PairsOkK quiet ops.toList f M → (∀ i, i ∈ M ↔ i < ops.size ∧ listed.getD i true = false) → listed.size = ops.size → M.length ≤ fuel →
      (∀ (i : Nat) (o : Oper), ops[i]? = some o → listed.getD i false = true → ∀ e ∈ o.after, Region.binds .any e = true → listed.getD e.on false = true) →
      GlobOk G gl → RepEnv G en a.tmps → Rel G h w → base ≤ h.length → nt ≤ a.tmps.size → evOps call base (M.map f) en h = some (en', h') →
      (∀ a' w' G', Reach G w h' w' G' → RepEnv G' en' a'.tmps → a'.tmps.size = a.tmps.size → a'.defers = a.defers → Q .normal a' w') → wpAny P .any ops Q fuel listed a w := by
  intro fuel
  have done : ∀ (listed : Array Bool) (M : List Nat) {G : Tie} {en en' : Env} {h h' : Heap} {a : Act} {w : World},
      (∀ i, i ∈ M ↔ i < ops.size ∧ listed.getD i true = false) → listed.size = ops.size → 
      RepEnv G en a.tmps → Rel G h w → evOps call base (M.map f) en h = some (en', h') →
      (∀ a' w' G', Reach G w h' w' G' → RepEnv G' en' a'.tmps → a'.tmps.size = a.tmps.size → a'.defers = a.defers → Q .normal a' w') → Region.ready .any ops listed = [] → Q .normal a w := by
    intro listed M G en en' h h' a w hM hlen he R hs hQ hr
    by_cases hMn : M = []
    · subst hMn
      simp only [List.map_nil, evOps, Option.some.injEq, Prod.mk.injEq] at hs
      obtain ⟨rfl, rfl⟩ := hs
      exact hQ a w G (Reach.refl R) he rfl rfl
    · exfalso
      obtain ⟨m, hmM, hleast⟩ := least_mem hMn
      obtain ⟨hm, hml⟩ := (hM m).1 hmM
      have : m ∈ Region.ready .any ops listed := by
        rw [mem_ready]
        refine ⟨hml, ops[m], Array.getElem?_eq_getElem hm, fun e he hb => ?_⟩
        have hlt := hback m _ (Array.getElem?_eq_getElem hm) e he hb
        cases hv : listed.getD e.on false with
        | true => rfl
        | false =>
          exfalso
          have hin : e.on ∈ M := (hM e.on).2 ⟨by omega, by
            have : e.on < listed.size := by omega
            simp [this] at hv ⊢
            exact hv⟩
          have := hleast _ hin
          omega
      rw [hr] at this
      simp at this
  induction fuel with
  | zero =>
    intro listed M G en en' h h' a w hnd hp hM hlen hfuel down hgl he R hb hsz hs hQ
    have hMn : M = [] := by simpa using hfuel
    have hr : Region.ready .any ops listed = [] := by
      refine List.eq_nil_iff_forall_not_mem.2 fun i hi => ?_
      rw [mem_ready] at hi
      have := (hM i).2 ⟨by have := getD_true_lt hi.1; omega, hi.1⟩
      rw [hMn] at this
      simp at this
    exact ⟨hr, done listed M hM hlen he R hs hQ hr⟩
  | succ fuel ih =>
    intro listed M G en en' h h' a w hnd hp hM hlen hfuel down hgl he R hb hsz hs hQ
    refine ⟨done listed M hM hlen he R hs hQ, fun i hi => ?_⟩
    obtain ⟨hil, o, ho, hall⟩ := mem_ready.1 hi
    have hisz : i < ops.size := by have := getD_true_lt hil; omega
    have him := (hM i).2 ⟨hisz, hil⟩
    obtain ⟨p, r, rfl⟩ := List.append_of_mem him
    have hst : (p.map f).Pairwise (fun x z => stayB x z = true) := by
      have := hp.2
      rw [List.pairwise_append] at this
      rw [List.pairwise_map]
      exact this.1
    have hcm : ∀ x ∈ p.map f, commB quiet x (f i) = true ∨ commK x (f i) = true := by
      intro y hy
      simp only [List.mem_map] at hy
      obtain ⟨x, hx, rfl⟩ := hy
      have hp1 := hp.1
      rw [List.pairwise_append] at hp1
      rcases hp1.2.2 x hx i (by simp) with hd | hd
      · exfalso
        have h1 := depB_listed down _ _ _ o ho hall hd
        have h2 := ((hM x).1 (by simp [hx])).2
        have h3 := getD_true_lt h2
        simp [h3] at h1 h2
        rw [h1] at h2
        simp at h2
      · exact hd
    rw [List.map_append, List.map_cons] at hs
    obtain ⟨v, h1, e1, e2⟩ := front2 hq hcm hst hs
    refine one_wp hc ho (hf i o ho) hgl he R hb hsz e1 fun a' w' G' hreach hb' he' q1 q2 => ?_
    have hsub : (p ++ r).Sublist (p ++ i :: r) := List.Sublist.append_left (List.sublist_cons_self i r) p
    have hni : i ∉ p ++ r := by
      have h1 := List.nodup_append.1 hnd
      have h2 := List.nodup_cons.1 h1.2.1
      intro hc
      rcases List.mem_append.1 hc with hc | hc
      · exact h1.2.2 i hc i (by simp) rfl
      · exact h2.1 hc
    rw [← List.map_append] at e2
    refine ih (listed.setIfInBounds i true) (p ++ r) (hnd.sublist hsub) ⟨List.Pairwise.sublist hsub hp.1, List.Pairwise.sublist hsub hp.2⟩ ?_ (by simpa using hlen) (by simp at hfuel ⊢; omega) ?_ (hgl.ext hreach.ext) he' hreach.rel hb' (by omega) e2 fun a'' w'' G'' hreach' he'' r1 r2 => hQ a'' w'' G'' (hreach.trans hreach') he'' (r1.trans q1) (r2.trans q2)
    · intro x
      by_cases hx : i = x
      · subst hx
        constructor
        · intro hx; exact absurd hx hni
        · rintro ⟨_, hx⟩
          have : i < listed.size := by omega
          simp [this] at hx
      · rw [getD_set_ne true hx, ← hM x]
        simp only [List.mem_append, List.mem_cons]
        constructor
        · rintro (h1 | h1)
          · exact .inl h1
          · exact .inr (.inr h1)
        · rintro (h1 | h1 | h1)
          · exact .inl h1
          · exact absurd h1.symm hx
          · exact .inr h1
    · intro x ox hox hxl e hm hbd
      by_cases hx : i = x
      · subst hx
        rw [ho] at hox
        injection hox with hox
        subst hox
        exact getD_set_true (hall e hm hbd)
      · rw [getD_set_ne false hx] at hxl
        exact getD_set_true (down x ox hox hxl e hm hbd)
end
end
section
open Go.RowKit (Below)
noncomputable def Tie.cut (G : Tie) (h : Heap) (w : World) (base : Nat) : Tie :=
  open Classical in
  { fz := fun k o => if (∃ b, b < base ∧ G.real h b = some k) ∨ G.kp k = true then G.fz k o else w.cell? ⟨k, o, none⟩
    n := base
    bx := G.bx
    rw := fun b => if b < base then G.rw b else none
    b0 := G.b0
    kp := G.kp }
theorem cut_fz {G : Tie} {h : Heap} {w : World} (R : Rel G h w) {base k o : Nat} {v : Value} (hv : G.fz k o = some v) : (G.cut h w base).fz k o = some v := by
  unfold Tie.cut
  simp only
  split
  · exact hv
  · exact R.fz k o v hv
theorem cut_free {G : Tie} {h : Heap} {w : World} (R : Rel G h w) {base k o b : Nat} (hb : base ≤ b) (hk : G.real h b = some k) : (G.cut h w base).fz k o = w.cell? ⟨k, o, none⟩ := by
  unfold Tie.cut
  simp only
  rw [if_neg]
  rintro (⟨b', hb', hk'⟩ | hk')
  · have := R.inj b' b k hk' hk
    omega
  · rw [R.kp_of hk] at hk'
    exact absurd hk' (by simp)
theorem ground_refs {n : Nat} {v : V} (h : ground v = true) : refsLt n v = true := by
  cases v <;> simp_all [ground, refsLt]
theorem ground_all {n : Nat} {l : List V} (h : l.all ground = true) : refsLts n l = true := by
  rw [refsLts_all]
  rw [List.all_eq_true] at h
  exact fun v hv => ground_refs (h v hv)
section
variable {G : Tie} {h : Heap} {w : World} {base : Nat}
mutual
theorem RepV.cut (R : Rel G h w) : ∀ {v : V} {r : Value}, refsLt base v = true → RepV G v r → RepV (G.cut h w base) v r
  | .undef, _, _, _ => by simp [RepV]
  | .sc v, r, _, hv => by simpa [RepV] using hv
  | .agg cs, r, hr, hv => by
    simp only [RepV, refsLt] at hv hr ⊢
    obtain ⟨rs, e, hv⟩ := hv
    exact ⟨rs, e, RepL.cut R hr hv⟩
  | .tup cs, r, hr, hv => by
    simp only [RepV, refsLt] at hv hr ⊢
    obtain ⟨rs, e, hv⟩ := hv
    exact ⟨rs, e, RepL.cut R hr hv⟩
  | .slc ex sz rows, r, _, hv => by
    simp only [RepV] at hv ⊢
    obtain ⟨a, cap, e, hl, he, hg, b, o, ha, hb, hv⟩ := hv
    exact ⟨a, cap, e, hl, he, hg, b, o, ha, hb, RepRows.cut R hg hv⟩
  | .hsl b e off len, r, hr, hv => by
    simp only [RepV, refsLt, decide_eq_true_eq] at hv hr ⊢
    obtain ⟨hb, a, cap, e1, hL⟩ := hv
    refine ⟨hr, a, cap, e1, fun L hL' => ?_⟩
    unfold Tie.cut at hL'
    simp only at hL'
    rw [if_pos hr] at hL'
    exact hL L hL'
  | .ptr b off, r, hr, hv => by
    simp only [RepV, refsLt, decide_eq_true_eq] at hv hr ⊢
    exact ⟨hr, hv.2⟩
  | .rptr b e i off, r, hr, hv => by
    simp only [RepV, refsLt, decide_eq_true_eq] at hv hr ⊢
    obtain ⟨hb, a, e1, hL⟩ := hv
    refine ⟨hr, a, e1, fun L hL' => ?_⟩
    unfold Tie.cut at hL'
    simp only at hL'
    rw [if_pos hr] at hL'
    exact hL L hL'
  | .eptr cs off, r, _, hv => by
    simp only [RepV] at hv ⊢
    obtain ⟨b, o, e, hg, hv⟩ := hv
    exact ⟨b, o, e, hg, RepF.cut R hg hv⟩
  | .fn f a c, r, hr, hv => by
    simp only [RepV, refsLt, Bool.and_eq_true] at hv hr ⊢
    obtain ⟨ra, rc, e, h1, h2⟩ := hv
    exact ⟨ra, rc, e, RepL.cut R hr.1 h1, RepL.cut R hr.2 h2⟩
  | .ifc t v, r, hr, hv => by
    simp only [RepV, refsLt] at hv hr ⊢
    obtain ⟨rv, e, hv⟩ := hv
    exact ⟨rv, e, RepV.cut R hr hv⟩
  | .mp b, r, hr, hv => by
    simp only [RepV, refsLt, decide_eq_true_eq] at hv hr ⊢
    exact ⟨hr, hv.2⟩
  | .opq, r, hr, hv => by
    simp only [RepV] at hv ⊢
    exact hv
theorem RepL.cut (R : Rel G h w) : ∀ {v : List V} {r : List Value}, refsLts base v = true → RepL G v r → RepL (G.cut h w base) v r
  | [], r, _, hv => by simpa [RepL] using hv
  | c :: cs, r, hr, hv => by
    simp only [RepL, refsLts, Bool.and_eq_true] at hv hr ⊢
    obtain ⟨a, rest, e, h1, h2⟩ := hv
    exact ⟨a, rest, e, RepV.cut R hr.1 h1, RepL.cut R hr.2 h2⟩
theorem RepF.cut (R : Rel G h w) : ∀ {b o : Nat} {v : List V}, v.all ground = true → RepF G b o v → RepF (G.cut h w base) b o v
  | _, _, [], _, _ => by simp [RepF]
  | b, o, c :: cs, hg, hv => by
    simp only [RepF, List.all_cons, Bool.and_eq_true] at hv hg ⊢
    obtain ⟨⟨v, h1, h2⟩, h3⟩ := hv
    exact ⟨⟨v, cut_fz R h1, RepV.cut R (ground_refs hg.1) h2⟩, RepF.cut R hg.2 h3⟩
theorem RepRows.cut (R : Rel G h w) : ∀ {sz b o : Nat} {v : List (List V)}, (v.all fun l => l.all ground) = true → RepRows G sz b o v → RepRows (G.cut h w base) sz b o v
  | _, _, _, [], _, _ => by simp [RepRows]
  | sz, b, o, c :: cs, hg, hv => by
    simp only [RepRows, List.all_cons, Bool.and_eq_true] at hv hg ⊢
    exact ⟨hv.1, RepF.cut R hg.1 hv.2.1, RepRows.cut R hg.2 hv.2.2⟩
end
theorem RepM.cut (R : Rel G h w) : ∀ {es : List (Value × V)} {l : List MapEntry}, (∀ e ∈ es, refsLt base e.2 = true) → RepM G es l → RepM (G.cut h w base) es l
  | [], l, _, hv => hv
  | e :: es, l, hg, hv => by
    simp only [RepM] at hv ⊢
    obtain ⟨y, r, e1, h1, h2, h3⟩ := hv
    exact ⟨y, r, e1, h1, h2.cut R (hg e (by simp)), RepM.cut R (fun e he => hg e (by simp [he])) h3⟩
theorem Rel.cut (R : Rel G h w) (ho : HeapOk base h) (hb : base ≤ h.length) : Rel (G.cut h w base) (h.take base) w := by
  have hget : ∀ b, b < base → (h.take base)[b]? = h[b]? := fun b hb => List.getElem?_take_of_lt hb
  have hnone : ∀ b, base ≤ b → (h.take base)[b]? = none := fun b hb => List.getElem?_eq_none (by simp; omega)
  have hreal : ∀ b k, (G.cut h w base).real (h.take base) b = some k → b < base ∧ G.real h b = some k := by
    intro b k hk
    rcases Nat.lt_or_ge b base with hl | hl
    · refine ⟨hl, ?_⟩
      unfold Tie.real at hk ⊢
      rw [hget b hl] at hk
      simp only [Tie.cut, if_pos hl] at hk
      exact hk
    · unfold Tie.real at hk
      rw [hnone b hl] at hk
      simp at hk
  refine ⟨by simp [Tie.cut]; omega, ?_, ?_, ?_, ?_, ?_, ?_, R.hb0, fun c hc => ?_⟩
  · intro k o v hv
    unfold Tie.cut at hv
    simp only at hv
    split at hv
    · exact R.fz k o v hv
    · exact hv
  · intro b t cs e
    rcases Nat.lt_or_ge b base with hl | hl
    · rw [hget b hl] at e
      obtain ⟨h1, rs, h2, h3⟩ := R.box b t cs e
      exact ⟨h1, rs, h2, h3.cut R ((ho b hl).1 _ cs e)⟩
    · rw [hnone b hl] at e
      simp at e
  · intro b t sz e rows eq
    rcases Nat.lt_or_ge b base with hl | hl
    · rw [hget b hl] at eq
      obtain ⟨h0, L, rs, h1, h2, h3, h4, h5, h6, h7⟩ := R.row b t sz e rows eq
      refine ⟨h0, L, rs, by simp only [Tie.cut, if_pos hl]; exact h1, h2, h3, h4, h5, h6, fun i cs hi => ?_⟩
      obtain ⟨q1, q2, q3⟩ := h7 i cs hi
      refine ⟨q1, q2, fun j c hj => ?_⟩
      obtain ⟨v, q4, q5⟩ := q3 j c hj
      have := (ho b hl).2.1 _ _ _ _ eq cs (List.mem_of_getElem? hi)
      exact ⟨v, q4, q5.cut R (refsLts_all.1 this c (List.mem_of_getElem? hj))⟩
    · rw [hnone b hl] at eq
      simp at eq
  · intro b es e
    rcases Nat.lt_or_ge b base with hl | hl
    · rw [hget b hl] at e
      obtain ⟨l, clock, h1, h2⟩ := R.mp b es e
      exact ⟨l, clock, h1, RepM.cut R ((ho b hl).2.2 es e) h2⟩
    · rw [hnone b hl] at e
      simp at e
  · intro b k hk
    obtain ⟨hl, hk⟩ := hreal b k hk
    refine ⟨(R.low b k hk).1, fun o => ?_⟩
    unfold Tie.cut
    simp only
    rw [if_pos (.inl ⟨b, hl, hk⟩)]
    exact (R.low b k hk).2 o
  · intro b b' k h1 h2
    exact R.inj b b' k (hreal b k h1).2 (hreal b' k h2).2
  · obtain ⟨k1, k2, k3⟩ := R.kp c hc
    refine ⟨k1, fun o => ?_, fun b e => k3 b (hreal b c e).2⟩
    unfold Tie.cut
    simp only
    rw [if_pos (.inr hc)]
    exact k2 o
theorem Ext.cut {G0 : Tie} (x : Ext G0 G) (R : Rel G h w) (hn : G0.n = base) : Ext G0 (G.cut h w base) where
  fz b o v hv := cut_fz R (x.fz b o v hv)
  n := by simp [Tie.cut, hn]
  bx b hb := x.bx b hb
  rw b hb L hL := by
    unfold Tie.cut at hL
    simp only at hL
    rw [if_pos (by omega)] at hL
    exact x.rw b hb L hL
  b0 := x.b0
  kp := x.kp
theorem freezeRow (R : Rel G h w) {b e off len sz : Nat} {rs rs' : List (List V)} {r : Value} (hb : base ≤ b) (hr : rowAt h b e = some (sz, rs)) (hl : off + len ≤ rs.length) (hlen : rs'.length = rs.length) (hg : (rs'.all fun l => l.all ground) = true)
    (hv : RepV G (.hsl b e off len) r) (hc : ∀ (i : Nat) (cs cs' : List V), rs[i]? = some cs → rs'[i]? = some cs' → cs'.length = cs.length ∧ ∀ (j : Nat) (c c' : V) (v : Value), cs[j]? = some c → cs'[j]? = some c' → RepV G c v → RepV (G.cut h w base) c' v) :
    RepV (G.cut h w base) (.slc .any sz ((rs'.drop off).take len)) r := by
  obtain ⟨ty, eq, hpos, L, cells, hL, hLe, hLs, hcp, hw, hsz, hB⟩ := R.rowAt hr
  simp only [RepV] at hv
  obtain ⟨hbn, a, cap, rfl, hLx⟩ := hv
  obtain ⟨_, h2⟩ := hLx L hL
  obtain ⟨hlc, hoc, haa⟩ := h2 hLe.symm
  have hreal : G.real h b = some L.blk := by unfold Tie.real; rw [eq]; simp [hL]
  have hlen' : ((rs'.drop off).take len).length = len := by simp; omega
  simp only [RepV]
  refine ⟨some a, cap, by rw [hlen'], by rw [hlen']; exact hlc, by simp [Cp.isFull], ?_, L.blk, off * sz, ?_, by simp, RepRows.of_get fun i cs' hi => ?_⟩
  · rw [List.all_eq_true] at hg ⊢
    exact fun y hy => hg y (List.mem_of_mem_drop (List.mem_of_mem_take hy))
  · intro hne
    have : 0 < len := by
      rcases Nat.eq_zero_or_pos len with e0 | e0
      · subst e0; simp at hne
      · exact e0
    rw [haa (by omega), hLs]
  · rw [List.getElem?_take] at hi
    split at hi
    · rename_i hil
      rw [List.getElem?_drop] at hi
      have hcs : rs[off + i]? = some (rs[off + i]'(by omega)) := List.getElem?_eq_getElem (by omega)
      obtain ⟨h3, _, h4⟩ := hB _ _ hcs
      obtain ⟨h5, h6⟩ := hc _ _ _ hcs hi
      refine ⟨by rw [h5, h3], RepF.of_get fun j c' hj => ?_⟩
      have hjl := (List.getElem?_eq_some_iff.1 hj).1
      have hcj : (rs[off + i]'(by omega))[j]? = some ((rs[off + i]'(by omega))[j]'(by omega)) := List.getElem?_eq_getElem (by omega)
      obtain ⟨v, h7, h8⟩ := h4 j _ hcj
      refine ⟨v, ?_, h6 j _ _ v hcj hj h8⟩
      rw [cut_free R hb hreal, cell_of_heap hw, ← h7]
      congr 1
      rw [Nat.add_mul]
    · simp at hi
theorem freeze_rep (R : Rel G h w) : ∀ (k : Nat),
    (∀ {v v' : V} {r : Value}, freezeV h base k v = some v' → RepV G v r → RepV (G.cut h w base) v' r) ∧
    (∀ {vs vs' : List V} {rs : List Value}, freezeVs h base k vs = some vs' → RepL G vs rs → RepL (G.cut h w base) vs' rs) ∧
    (∀ {vs vs' : List V}, freezeVs h base k vs = some vs' → vs'.length = vs.length ∧ ∀ (j : Nat) (c c' : V) (v : Value), vs[j]? = some c → vs'[j]? = some c' → RepV G c v → RepV (G.cut h w base) c' v) ∧
    (∀ {rows rows' : List (List V)}, freezeRows h base k rows = some rows' → rows'.length = rows.length ∧ ∀ (i : Nat) (cs cs' : List V), rows[i]? = some cs → rows'[i]? = some cs' → cs'.length = cs.length ∧
      ∀ (j : Nat) (c c' : V) (v : Value), cs[j]? = some c → cs'[j]? = some c' → RepV G c v → RepV (G.cut h w base) c' v) := by
  intro k
  induction k with
  | zero => 
    refine ⟨fun e => ?_, fun e => ?_, fun e => ?_, fun e => ?_⟩
    · simp [freezeV] at e
    · simp [freezeVs] at e
    · simp [freezeVs] at e
    · simp [freezeRows] at e
  | succ k ih =>
    obtain ⟨ih1, ih2, ih3, ih4⟩ := ih
    refine ⟨fun {v v' r} e hv => ?_, fun {vs vs' rs} e hv => ?_, fun {vs vs'} e => ?_, fun {rows rows'} e => ?_⟩
    · cases v <;> simp only [freezeV] at e
      case undef => injection e with e; subst e; simp [RepV]
      case opq => injection e with e; subst e; simpa [RepV] using hv
      case sc v => injection e with e; subst e; exact hv.cut R (by simp [refsLt])
      case slc => injection e with e; subst e; exact hv.cut R (by simp [refsLt])
      case eptr => injection e with e; subst e; exact hv.cut R (by simp [refsLt])
      case agg cs =>
        simp only [Option.map_eq_some_iff] at e
        obtain ⟨cs', h1, rfl⟩ := e
        simp only [RepV] at hv ⊢
        obtain ⟨rs, e, hv⟩ := hv
        exact ⟨rs, e, ih2 h1 hv⟩
      case tup cs =>
        simp only [Option.map_eq_some_iff] at e
        obtain ⟨cs', h1, rfl⟩ := e
        simp only [RepV] at hv ⊢
        obtain ⟨rs, e, hv⟩ := hv
        exact ⟨rs, e, ih2 h1 hv⟩
      case hsl b ep off len =>
        split at e
        · rename_i hb
          injection e with e; subst e
          exact hv.cut R (by simpa [refsLt] using hb)
        · rename_i hb
          split at e
          · rename_i sz rs hr
            split at e
            · rename_i hl
              split at e
              · rename_i hg
                injection e with e; subst e
                refine freezeRow R (by omega) hr hl rfl hg hv fun i cs cs' h1 h2 => ?_
                rw [h1] at h2
                injection h2 with h2
                subst h2
                refine ⟨rfl, fun j c c' v h3 h4 h5 => ?_⟩
                rw [h3] at h4
                injection h4 with h4
                subst h4
                rw [List.all_eq_true] at hg
                have := hg cs (List.mem_of_getElem? h1)
                rw [List.all_eq_true] at this
                exact h5.cut R (ground_refs (this c (List.mem_of_getElem? h3)))
              · simp only [Option.bind_eq_some_iff] at e
                obtain ⟨rs', h1, e⟩ := e
                split at e
                · rename_i hg
                  injection e with e; subst e
                  obtain ⟨h2, h3⟩ := ih4 h1
                  exact freezeRow R (by omega) hr hl h2 hg hv h3
                · simp at e
            · simp at e
          · simp at e
      case ptr b o =>
        split at e
        · rename_i hb
          injection e with e; subst e
          exact hv.cut R (by simpa [refsLt] using hb)
        · simp at e
      case rptr b ep i o =>
        split at e
        · rename_i hb
          injection e with e; subst e
          exact hv.cut R (by simpa [refsLt] using hb)
        · simp at e
      case mp b =>
        split at e
        · rename_i hb
          injection e with e; subst e
          exact hv.cut R (by simpa [refsLt] using hb)
        · simp at e
      case fn f a c =>
        split at e
        · rename_i hb
          injection e with e; subst e
          exact hv.cut R (by simpa [refsLt] using hb)
        · simp at e
      case ifc t v =>
        split at e
        · rename_i hb
          injection e with e; subst e
          exact hv.cut R (by simpa [refsLt] using hb)
        · simp at e
    · cases vs with
      | nil =>
        simp only [freezeVs, Option.some.injEq] at e
        subst e
        simpa [RepL] using hv
      | cons c cs =>
        simp only [freezeVs, Option.bind_eq_some_iff, Option.map_eq_some_iff] at e
        obtain ⟨c', h1, cs', h2, rfl⟩ := e
        simp only [RepL] at hv ⊢
        obtain ⟨a, rest, e, h3, h4⟩ := hv
        exact ⟨a, rest, e, ih1 h1 h3, ih2 h2 h4⟩
    · cases vs with
      | nil =>
        simp only [freezeVs, Option.some.injEq] at e
        subst e
        exact ⟨rfl, fun j c c' v h1 => by simp at h1⟩
      | cons c cs =>
        simp only [freezeVs, Option.bind_eq_some_iff, Option.map_eq_some_iff] at e
        obtain ⟨c', h1, cs', h2, rfl⟩ := e
        obtain ⟨h3, h4⟩ := ih3 h2
        refine ⟨by simp [h3], fun j d d' v e1 e2 hv => ?_⟩
        cases j with
        | zero =>
          simp at e1 e2
          subst e1; subst e2
          exact ih1 h1 hv
        | succ j => exact h4 j d d' v (by simpa using e1) (by simpa using e2) hv
    · cases rows with
      | nil =>
        simp only [freezeRows, Option.some.injEq] at e
        subst e
        exact ⟨rfl, fun i cs cs' h1 => by simp at h1⟩
      | cons c cs =>
        simp only [freezeRows, Option.bind_eq_some_iff, Option.map_eq_some_iff] at e
        obtain ⟨c', h1, cs', h2, rfl⟩ := e
        obtain ⟨h3, h4⟩ := ih4 h2
        refine ⟨by simp [h3], fun i d d' e1 e2 => ?_⟩
        cases i with
        | zero =>
          simp at e1 e2
          subst e1; subst e2
          exact ih3 h1
        | succ i => exact h4 i d d' (by simpa using e1) (by simpa using e2)
end
mutual
theorem RepV.refs {G : Tie} : ∀ {v : V} {r : Value}, RepV G v r → refsLt G.n v = true
  | .undef, _, _ => by simp [refsLt]
  | .opq, _, _ => by simp [refsLt]
  | .sc v, r, hv => by simp [refsLt]
  | .agg cs, r, hv => by
    simp only [RepV, refsLt] at hv ⊢
    obtain ⟨rs, e, hv⟩ := hv
    exact RepL.refs hv
  | .tup cs, r, hv => by
    simp only [RepV, refsLt] at hv ⊢
    obtain ⟨rs, e, hv⟩ := hv
    exact RepL.refs hv
  | .slc ex sz rows, r, _ => by simp [refsLt]
  | .hsl b e off len, r, hv => by
    simp only [RepV, refsLt, decide_eq_true_eq] at hv ⊢
    exact hv.1
  | .ptr b off, r, hv => by
    simp only [RepV, refsLt, decide_eq_true_eq] at hv ⊢
    exact hv.1
  | .rptr b e i off, r, hv => by
    simp only [RepV, refsLt, decide_eq_true_eq] at hv ⊢
    exact hv.1
  | .eptr cs off, r, _ => by simp [refsLt]
  | .fn f a c, r, hv => by
    simp only [RepV, refsLt, Bool.and_eq_true] at hv ⊢
    obtain ⟨ra, rc, e, h1, h2⟩ := hv
    exact ⟨RepL.refs h1, RepL.refs h2⟩
  | .ifc t v, r, hv => by
    simp only [RepV, refsLt] at hv ⊢
    obtain ⟨rv, e, hv⟩ := hv
    exact RepV.refs hv
  | .mp b, r, hv => by
    simp only [RepV, refsLt, decide_eq_true_eq] at hv ⊢
    exact hv.1
theorem RepL.refs {G : Tie} : ∀ {v : List V} {r : List Value}, RepL G v r → refsLts G.n v = true
  | [], r, _ => by simp [refsLts]
  | c :: cs, r, hv => by
    simp only [RepL, refsLts, Bool.and_eq_true] at hv ⊢
    obtain ⟨a, rest, e, h1, h2⟩ := hv
    exact ⟨RepV.refs h1, RepL.refs h2⟩
end
theorem Rel.heapOk {G : Tie} {h : Heap} {w : World} (R : Rel G h w) : HeapOk h.length h := by
  intro b hb
  refine ⟨fun t cs e => ?_, fun t sz e rows eq r hr => ?_, fun es eq e he => ?_⟩
  · obtain ⟨_, rs, _, h3⟩ := R.box b t cs e
    rw [← R.n]
    exact h3.refs
  · obtain ⟨_, L, rs, _, _, _, _, _, _, h7⟩ := R.row b t sz e rows eq
    obtain ⟨i, hi⟩ := List.getElem?_of_mem hr
    obtain ⟨_, _, h8⟩ := h7 i r hi
    rw [← R.n, refsLts_all]
    intro v hv
    obtain ⟨j, hj⟩ := List.getElem?_of_mem hv
    obtain ⟨u, _, h9⟩ := h8 j v hj
    exact h9.refs
  · obtain ⟨l, clock, _, h2⟩ := R.mp b es eq
    obtain ⟨y, _, _, hy⟩ := h2.mem he
    rw [← R.n]
    exact hy.refs
end
section
open Go.RowKit (Below)
section
variable {P : Program} {gl : Nat → Option (List V)} {call : CallF} {base nt : Nat}
theorem evVal_plain {o : AOper} {en : Env} {h : Heap} (hn : (∀ f a, o.op ≠ .call f a) ∧ ∀ f a t, o.op ≠ .callK f a t) (hg : o.guard = none) (ho : o.off = []) : evVal call base o en h = step base en h o.op := by
  unfold evVal
  rw [hg]
  simp only
  unfold evOper
  rw [if_pos (offOk_nil ho en)]
  exact evOp_noCall hn
theorem notTmp_get {x : Opd} {s : Nat} {en : Env} {v : V} (h : x.notTmp s = true) : x.get (en.put (some s) v) = x.get en := by
  cases x with
  | tmp u =>
    simp only [Opd.notTmp, bne_iff_ne, ne_eq] at h
    show (if u = s then v else en u) = en u
    rw [if_neg h]
  | val v => rfl
  | qtmp qs t => simp [Opd.notTmp] at h
theorem grounds_one {l : List V} (h : l.all ground = true) : l.all zm = true := by
  rw [List.all_eq_true] at h ⊢
  intro v hv
  have := h v hv
  cases v <;> simp_all [ground, zm]
theorem fuse_steps {a1 a2 f : AOper} {en : Env} {h h' : Heap} {v : V} (hf : fuse1 gl a1 a2 = some f) (hs : evVal call base f en h = some (v, h')) (hb : base ≤ h.length) :
    ∃ s t cells, a1.dst = some s ∧ a2.dst = none ∧ f.dst = some s ∧ v = .eptr cells 0 ∧ h' = h ∧ cells.all ground = true ∧
      ∃ zs, evVal call base a1 en h = some (.ptr h.length 0, h ++ [.box t zs]) ∧ evVal call base a2 (en.put (some s) (.ptr h.length 0)) (h ++ [.box t zs]) = some (.undef, h ++ [.box t cells]) := by
  unfold fuse1 at hf
  split at hf
  · rename_i t zs n s x e1 e2
    split at hf
    · rename_i hc
      simp only [Bool.and_eq_true, Option.isNone_iff_eq_none, List.isEmpty_iff, beq_iff_eq] at hc
      obtain ⟨⟨⟨⟨⟨⟨⟨⟨c1, c2⟩, c3⟩, c4⟩, c5⟩, c6⟩, c7⟩, c8⟩, _⟩ := hc
      injection hf with hf
      subst hf
      rw [evVal_plain ⟨fun _ _ => by simp, fun _ _ _ => by simp⟩ rfl rfl] at hs
      simp only [step] at hs
      split at hs
      · rename_i hg
        simp only [Option.all_some, Bool.and_eq_true, beq_iff_eq] at hg
        simp only [Option.some.injEq, Prod.mk.injEq] at hs
        obtain ⟨rfl, rfl⟩ := hs
        refine ⟨s, t, (x.get en).cells, c6, c3, rfl, rfl, rfl, hg.1, zs, ?_, ?_⟩
        · rw [evVal_plain (by rw [e1]; simp) c1 c4, e1]
          rfl
        · rw [evVal_plain (by rw [e2]; simp) c2 c5, e2]
          have hp : (Opd.tmp s).get (en.put (some s) (.ptr h.length 0)) = .ptr h.length 0 := by
            show (if s = s then _ else _) = _
            rw [if_pos rfl]
          have hst : storeV base (h ++ [.box t zs]) n (.ptr h.length 0) (x.get en) = some (h ++ [.box t (x.get en).cells]) := by
            unfold storeV
            rw [if_pos ⟨hg.2, grounds_one hg.1⟩]
            have hl : (h ++ [Obj.box t zs])[h.length]? = some (.box t zs) := by simp
            have hput : putCells zs 0 (x.get en).cells = (x.get en).cells := by
              unfold putCells
              simp [hg.2, c8]
            have hms : mayStore base h.length (x.get en).cells = true := by
              unfold mayStore
              simp [hb]
            simp only [hl, hput, hms]
            rw [if_pos ⟨by omega, trivial⟩]
            simp
          simp only [step, hp, notTmp_get c7, hst, Option.map_some]
      · simp at hs
    · simp at hf
  · simp at hf
theorem fuse_wp (hc : CallOk P gl call) {ops : Array Oper} {Q : Exit → Act → World → Prop} : ∀ (aops : List AOper) {l : List Nat} {G : Tie} {en en' : Env} {h h' : Heap} {a : Act} {w : World},
    All2 (fun i ao => ∃ o, ops[i]? = some o ∧ Serves P gl nt ops.toList o ao) l aops →
    GlobOk G gl → RepEnv G en a.tmps → Rel G h w → base ≤ h.length → nt ≤ a.tmps.size → evOps call base (fuse gl aops) en h = some (en', h') →
    (∀ a' w' G', Reach G w h' w' G' → RepEnv G' en' a'.tmps → a'.tmps.size = a.tmps.size → a'.defers = a.defers → Q .normal a' w') → wpOps P ops Q l a w
  | [], l, G, en, en', h, h', a, w, hall, hgl, he, R, hb, hsz, hs, hQ => ops_wp hc hall hgl he R hb hsz hs hQ
  | [a1], l, G, en, en', h, h', a, w, hall, hgl, he, R, hb, hsz, hs, hQ => ops_wp hc hall hgl he R hb hsz hs hQ
  | a1 :: a2 :: r, l, G, en, en', h, h', a, w, hall, hgl, he, R, hb, hsz, hs, hQ => by
    simp only [fuse] at hs
    cases l with
    | nil => simp [All2] at hall
    | cons i l =>
    simp only [All2] at hall
    obtain ⟨ao, aops', heq, ⟨o, ho, hser⟩, hall⟩ := hall
    injection heq with e1 e2
    subst e1; subst e2
    split at hs
    · rename_i f hf
      cases l with
      | nil => simp [All2] at hall
      | cons j l =>
      simp only [All2] at hall
      obtain ⟨ao2, aops2, heq, ⟨o2, ho2, hser2⟩, hall⟩ := hall
      injection heq with e1 e2
      subst e1; subst e2
      rw [evOps_cons, Option.bind_eq_some_iff] at hs
      obtain ⟨⟨v, h1⟩, e1, e2⟩ := hs
      obtain ⟨s, t, cells, d1, d2, d3, rfl, rfl, hg, zs, v1, v2⟩ := fuse_steps hf e1 hb
      rw [wpOps_cons]
      refine one_wp hc ho hser hgl he R hb hsz v1 fun a1' w1 G1 r1 hb1 he1 q1 q2 => ?_
      rw [wpOps_cons]
      rw [d1] at he1
      refine one_wp hc ho2 hser2 (hgl.ext r1.ext) he1 r1.rel hb1 (by omega) v2 fun a2' w2 G2 r2 hb2 he2 q3 q4 => ?_
      rw [d2] at he2
      have rr := r1.trans r2
      have hok : HeapOk h1.length (h1 ++ [.box t cells]) := (R.heapOk).app (Nat.le_refl _) _
      have hR3 : Rel (G2.cut (h1 ++ [.box t cells]) w2 h1.length) h1 w2 := by
        have := rr.rel.cut hok (by simp)
        simpa using this
      have x3 : Ext G (G2.cut (h1 ++ [.box t cells]) w2 h1.length) := rr.ext.cut rr.rel R.n
      have r3 : Reach G w h1 w2 (G2.cut (h1 ++ [.box t cells]) w2 h1.length) := ⟨x3, hR3, rr.below⟩
      have he3 : RepEnv (G2.cut (h1 ++ [.box t cells]) w2 h1.length) (en.put f.dst (.eptr cells 0)) a2'.tmps := by
        intro u
        have hu := he2 u
        rw [d3]
        show RepV _ (if u = s then V.eptr cells 0 else en u) _
        by_cases hus : u = s
        · subst hus
          rw [if_pos rfl]
          have hu : RepV G2 (.ptr h1.length 0) (a2'.tmps.getD u undef) := by
            have e : ((en.put (some u) (V.ptr h1.length 0)).put none V.undef) u = .ptr h1.length 0 := by
              show (if u = u then _ else _) = _
              rw [if_pos rfl]
            rw [e] at hu
            exact hu
          simp only [RepV] at hu ⊢
          have hget : (h1 ++ [Obj.box t cells])[h1.length]? = some (.box t cells) := by simp
          obtain ⟨_, rs, hw, hl⟩ := rr.rel.box _ _ _ hget
          refine ⟨G2.bx h1.length, 0, by simpa using hu.2, hg, RepF.of_get fun j c hj => ?_⟩
          obtain ⟨rv, hr, hv⟩ := hl.get hj
          refine ⟨rv, ?_, hv.cut rr.rel (ground_refs (List.all_eq_true.1 hg c (List.mem_of_getElem? hj)))⟩
          rw [cut_free rr.rel (Nat.le_refl _) (by unfold Tie.real; rw [hget]), cell_of_heap hw, Nat.zero_add, ← Array.getElem?_toList]
          exact hr
        · rw [if_neg hus]
          have e : ((en.put (some s) (V.ptr h1.length 0)).put none V.undef) u = en u := by
            show (if u = s then _ else _) = _
            rw [if_neg hus]
          rw [e] at hu
          exact hu.cut rr.rel (by have := (he u).refs; rwa [R.n] at this)
      refine fuse_wp hc r hall (hgl.ext x3) he3 hR3 hb (by omega) e2 fun a'' w'' G'' rf he'' s1 s2 => ?_
      exact hQ a'' w'' G'' (r3.trans rf) he'' (by omega) ((s2.trans q4).trans q2)
    · rw [evOps_cons, Option.bind_eq_some_iff] at hs
      obtain ⟨⟨v, h1⟩, e1, e2⟩ := hs
      rw [wpOps_cons]
      refine one_wp hc ho hser hgl he R hb hsz e1 fun a' w' G' hreach hb' he' q1 q2 => ?_
      refine fuse_wp hc (a2 :: r) hall (hgl.ext hreach.ext) he' hreach.rel hb' (by omega) e2 fun a'' w'' G'' hreach' he'' r1 r2 => ?_
      exact hQ a'' w'' G'' (hreach.trans hreach') he'' (r1.trans q1) (r2.trans q2)
end
end
section
open Go.RowKit (Below)
theorem rnVs_map (f : Nat → Nat) : ∀ l : List V, rnVs f l = l.map (rnV f)
  | [] => rfl
  | v :: r => by rw [rnVs, rnVs_map f r]; rfl
theorem rnVs_len (f : Nat → Nat) (l : List V) : (rnVs f l).length = l.length := by rw [rnVs_map, List.length_map]
theorem ground_rn {f : Nat → Nat} {v : V} (h : ground v = true) : rnV f v = v := by
  cases v <;> simp [ground] at h <;> rfl
theorem oneCell_rn {f : Nat → Nat} (v : V) : zm (rnV f v) = zm v := by
  cases v <;> rfl
theorem all_oneCell_rn {f : Nat → Nat} (l : List V) : (rnVs f l).all zm = l.all zm := by
  rw [rnVs_map, List.all_map]
  congr 1
  funext v
  exact oneCell_rn v
mutual
theorem rn_same {n : Nat} {f : Nat → Nat} (hf : ∀ b, b < n → f b = b) : ∀ {v : V}, refsLt n v = true → rnV f v = v
  | .undef, _ => rfl
  | .sc _, _ => rfl
  | .agg cs, h => by simp only [refsLt] at h; rw [rnV, rns_same hf h]
  | .tup cs, h => by simp only [refsLt] at h; rw [rnV, rns_same hf h]
  | .slc .., _ => rfl
  | .hsl b e off len, h => by simp only [refsLt, decide_eq_true_eq] at h; rw [rnV, hf b h]
  | .ptr b off, h => by simp only [refsLt, decide_eq_true_eq] at h; rw [rnV, hf b h]
  | .rptr b e i off, h => by simp only [refsLt, decide_eq_true_eq] at h; rw [rnV, hf b h]
  | .eptr .., _ => rfl
  | .fn k a c, h => by
    simp only [refsLt, Bool.and_eq_true] at h
    rw [rnV, rns_same hf h.1, rns_same hf h.2]
  | .ifc t v, h => by simp only [refsLt] at h; rw [rnV, rn_same hf h]
  | .mp b, h => by simp only [refsLt, decide_eq_true_eq] at h; rw [rnV, hf b h]
  | .opq, _ => rfl
theorem rns_same {n : Nat} {f : Nat → Nat} (hf : ∀ b, b < n → f b = b) : ∀ {l : List V}, refsLts n l = true → rnVs f l = l
  | [], _ => rfl
  | v :: r, h => by
    simp only [refsLts, Bool.and_eq_true] at h
    rw [rnVs, rn_same hf h.1, rns_same hf h.2]
end
mutual
theorem RepV.ltn {G : Tie} : ∀ {v : V} {r : Value}, RepV G v r → refsLt G.n v = true
  | .undef, _, _ => rfl
  | .sc _, _, _ => rfl
  | .agg cs, r, h => by
    simp only [RepV] at h
    obtain ⟨rs, e, h⟩ := h
    simp only [refsLt]
    exact RepL.ltn h
  | .tup cs, r, h => by
    simp only [RepV] at h
    obtain ⟨rs, e, h⟩ := h
    simp only [refsLt]
    exact RepL.ltn h
  | .slc .., _, _ => rfl
  | .hsl b e off len, r, h => by simp only [RepV] at h; simp only [refsLt, decide_eq_true_eq]; exact h.1
  | .ptr b off, r, h => by simp only [RepV] at h; simp only [refsLt, decide_eq_true_eq]; exact h.1
  | .rptr b e i off, r, h => by simp only [RepV] at h; simp only [refsLt, decide_eq_true_eq]; exact h.1
  | .eptr .., _, _ => rfl
  | .fn f a c, r, h => by
    simp only [RepV] at h
    obtain ⟨ra, rc, hr, h1, h2⟩ := h
    simp only [refsLt, Bool.and_eq_true]
    exact ⟨RepL.ltn h1, RepL.ltn h2⟩
  | .ifc t v, r, h => by
    simp only [RepV] at h
    obtain ⟨rv, hr, h⟩ := h
    simp only [refsLt]
    exact RepV.ltn h
  | .mp b, r, h => by simp only [RepV] at h; simp only [refsLt, decide_eq_true_eq]; exact h.1
  | .opq, _, _ => rfl
theorem RepL.ltn {G : Tie} : ∀ {l : List V} {r : List Value}, RepL G l r → refsLts G.n l = true
  | [], _, _ => rfl
  | c :: cs, r, h => by
    simp only [RepL] at h
    obtain ⟨a, rest, e, h1, h2⟩ := h
    simp only [refsLts, Bool.and_eq_true]
    exact ⟨RepV.ltn h1, RepL.ltn h2⟩
end
def Tie.rn (G : Tie) (g : Nat → Nat) : Tie := { G with bx := fun b => G.bx (g b), rw := fun b => G.rw (g b) }
section
variable {G : Tie} {f g : Nat → Nat}
mutual
theorem RepV.rn (hg : ∀ b, g (f b) = b) (hn : ∀ b, b < G.n → f b < G.n) : ∀ {v : V} {r : Value}, RepV G v r → RepV (G.rn g) (rnV f v) r
  | .undef, _, _ => by simp [rnV, RepV]
  | .sc v, r, h => by simpa [rnV, RepV] using h
  | .agg cs, r, h => by
    simp only [rnV, RepV] at h ⊢
    obtain ⟨rs, e, h⟩ := h
    exact ⟨rs, e, RepL.rn hg hn h⟩
  | .tup cs, r, h => by
    simp only [rnV, RepV] at h ⊢
    obtain ⟨rs, e, h⟩ := h
    exact ⟨rs, e, RepL.rn hg hn h⟩
  | .slc ex sz rows, r, h => by
    simp only [rnV, RepV] at h ⊢
    obtain ⟨a, cap, e, hl, he, hgr, b, o, ha, hb, h⟩ := h
    exact ⟨a, cap, e, hl, he, hgr, b, o, ha, hb, RepRows.rn hg hn hgr h⟩
  | .hsl b e off len, r, h => by
    simp only [rnV, RepV] at h ⊢
    obtain ⟨hb, a, cap, hr, h⟩ := h
    refine ⟨hn b hb, a, cap, hr, fun L hL => h L ?_⟩
    simp only [Tie.rn, hg] at hL
    exact hL
  | .ptr b off, r, h => by
    simp only [rnV, RepV] at h ⊢
    refine ⟨hn b h.1, ?_⟩
    simp only [Tie.rn, hg]
    exact h.2
  | .rptr b e i off, r, h => by
    simp only [rnV, RepV] at h ⊢
    obtain ⟨hb, a, hr, h⟩ := h
    refine ⟨hn b hb, a, hr, fun L hL => h L ?_⟩
    simp only [Tie.rn, hg] at hL
    exact hL
  | .eptr cs off, r, h => by
    simp only [rnV, RepV] at h ⊢
    obtain ⟨b, o, hr, hgr, h⟩ := h
    exact ⟨b, o, hr, hgr, RepF.rn hg hn hgr h⟩
  | .fn k a c, r, h => by
    simp only [rnV, RepV] at h ⊢
    obtain ⟨ra, rc, hr, h1, h2⟩ := h
    exact ⟨ra, rc, hr, RepL.rn hg hn h1, RepL.rn hg hn h2⟩
  | .ifc t v, r, h => by
    simp only [rnV, RepV] at h ⊢
    obtain ⟨rv, hr, h⟩ := h
    exact ⟨rv, hr, RepV.rn hg hn h⟩
  | .mp b, r, h => by
    simp only [rnV, RepV] at h ⊢
    refine ⟨hn b h.1, ?_⟩
    simp only [Tie.rn, hg]
    exact h.2
  | .opq, r, h => by
    simp only [rnV, RepV] at h ⊢
    exact h
theorem RepL.rn (hg : ∀ b, g (f b) = b) (hn : ∀ b, b < G.n → f b < G.n) : ∀ {v : List V} {r : List Value}, RepL G v r → RepL (G.rn g) (rnVs f v) r
  | [], r, h => by simpa [rnVs, RepL] using h
  | c :: cs, r, h => by
    simp only [rnVs, RepL] at h ⊢
    obtain ⟨a, rest, e, h1, h2⟩ := h
    exact ⟨a, rest, e, RepV.rn hg hn h1, RepL.rn hg hn h2⟩
theorem RepF.rn (hg : ∀ b, g (f b) = b) (hn : ∀ b, b < G.n → f b < G.n) : ∀ {b o : Nat} {v : List V}, v.all ground = true → RepF G b o v → RepF (G.rn g) b o v
  | _, _, [], _, _ => by simp [RepF]
  | b, o, c :: cs, hgr, h => by
    simp only [List.all_cons, Bool.and_eq_true] at hgr
    simp only [RepF] at h ⊢
    obtain ⟨⟨v, h1, h2⟩, h3⟩ := h
    have := RepV.rn hg hn h2
    rw [ground_rn hgr.1] at this
    exact ⟨⟨v, h1, this⟩, RepF.rn hg hn hgr.2 h3⟩
theorem RepRows.rn (hg : ∀ b, g (f b) = b) (hn : ∀ b, b < G.n → f b < G.n) : ∀ {sz b o : Nat} {v : List (List V)}, (v.all fun l => l.all ground) = true → RepRows G sz b o v → RepRows (G.rn g) sz b o v
  | _, _, _, [], _, _ => by simp [RepRows]
  | sz, b, o, c :: cs, hgr, h => by
    simp only [List.all_cons, Bool.and_eq_true] at hgr
    simp only [RepRows] at h ⊢
    exact ⟨h.1, RepF.rn hg hn hgr.1 h.2.1, RepRows.rn hg hn hgr.2 h.2.2⟩
end
theorem RepM.rn (hg : ∀ b, g (f b) = b) (hn : ∀ b, b < G.n → f b < G.n) : ∀ {es : List (Value × V)} {l : List MapEntry}, RepM G es l → RepM (G.rn g) (es.map fun e => (e.1, rnV f e.2)) l
  | [], l, h => by simpa [RepM] using h
  | e :: es, l, h => by
    simp only [List.map_cons, RepM] at h ⊢
    obtain ⟨x, r, e1, h1, h2, h3⟩ := h
    exact ⟨x, r, e1, h1, h2.rn hg hn, RepM.rn hg hn h3⟩
theorem RepBlk.rn (hg : ∀ b, g (f b) = b) (hn : ∀ b, b < G.n → f b < G.n) {sz : Nat} {rs : Array Value} {rows : List (List V)} (h : RepBlk G sz rs rows) : RepBlk (G.rn g) sz rs (rows.map (rnVs f)) := by
  intro i cs e
  rw [List.getElem?_map, Option.map_eq_some_iff] at e
  obtain ⟨cs', e', rfl⟩ := e
  obtain ⟨h1, h2, h3⟩ := h i cs' e'
  refine ⟨by rw [rnVs_len]; exact h1, by rw [all_oneCell_rn]; exact h2, fun j c ec => ?_⟩
  rw [rnVs_map, List.getElem?_map, Option.map_eq_some_iff] at ec
  obtain ⟨c', ec', rfl⟩ := ec
  obtain ⟨v, hv, hr⟩ := h3 j c' ec'
  exact ⟨v, hv, hr.rn hg hn⟩
theorem Rel.rn {h h0 : Heap} {w : World} (R : Rel G h w) (hg : ∀ b, g (f b) = b) (hf : ∀ b, f (g b) = b) (hn : ∀ b, b < G.n → f b < G.n) (hn' : ∀ b, b < G.n → g b < G.n) (hl : h0.length = h.length)
    (hh : ∀ b, b < h.length → h0[b]? = (h[g b]?).map (rnO f)) : Rel (G.rn g) h0 w := by
  have src : ∀ b o, h0[b]? = some o → ∃ o', h[g b]? = some o' ∧ o = rnO f o' := by
    intro b o e
    have hb : b < h0.length := (List.getElem?_eq_some_iff.1 e).1
    rw [hh b (by omega), Option.map_eq_some_iff] at e
    obtain ⟨o', e1, e2⟩ := e
    exact ⟨o', e1, e2.symm⟩
  have rl : ∀ b k, (G.rn g).real h0 b = some k → G.real h (g b) = some k := by
    intro b k e
    unfold Tie.real at e ⊢
    cases hb : h0[b]? with
    | none => rw [hb] at e; simp at e
    | some o =>
      obtain ⟨o', e1, rfl⟩ := src b o hb
      rw [hb] at e
      rw [e1]
      cases o' <;> first | (simp [rnO] at e; done) | simpa [rnO, Tie.rn] using e
  refine ⟨?_, R.fz, ?_, ?_, ?_, ?_, ?_, R.hb0, ?_⟩
  · show G.n = h0.length
    rw [hl, R.n]
  · intro b t cs e
    obtain ⟨o', e1, e2⟩ := src b _ e
    cases o' with
    | box t' cs' =>
      simp only [rnO, Obj.box.injEq] at e2
      obtain ⟨rfl, rfl⟩ := e2
      obtain ⟨h1, rs, h2, h3⟩ := R.box _ _ _ e1
      exact ⟨by rw [all_oneCell_rn]; exact h1, rs, h2, h3.rn hg hn⟩
    | _ => simp [rnO] at e2
  · intro b t sz e rows eq
    obtain ⟨o', e1, e2⟩ := src b _ eq
    cases o' with
    | row t' sz' e' rows' =>
      simp only [rnO, Obj.row.injEq] at e2
      obtain ⟨rfl, rfl, rfl, rfl⟩ := e2
      obtain ⟨h0, L, rs, h1, h2, h3, h4, h5, h6, h7⟩ := R.row _ _ _ _ _ e1
      exact ⟨h0, L, rs, h1, h2, h3, by rw [List.length_map]; exact h4, h5, h6, h7.rn hg hn⟩
    | _ => simp [rnO] at e2
  · intro b es e
    obtain ⟨o', e1, e2⟩ := src b _ e
    cases o' with
    | mmap es' =>
      simp only [rnO, Obj.mmap.injEq] at e2
      subst e2
      obtain ⟨l, c, h1, h2⟩ := R.mp _ _ e1
      exact ⟨l, c, h1, h2.rn hg hn⟩
    | _ => simp [rnO] at e2
  · intro b k e
    exact R.low _ _ (rl b k e)
  · intro b b' k e e'
    have := R.inj _ _ k (rl b k e) (rl b' k e')
    rw [← hf b, ← hf b', this]
  · intro k hk
    obtain ⟨h1, h2, h3⟩ := R.kp k hk
    exact ⟨h1, h2, fun b e => h3 _ (rl b k e)⟩
theorem Ext.rn {G0 : Tie} (x : Ext G0 G) (hg : ∀ b, b < G0.n → g b = b) : Ext G0 (G.rn g) where
  fz := x.fz
  n := x.n
  bx b hb := by
    show G.bx (g b) = _
    rw [hg b hb]
    exact x.bx b hb
  rw b hb L' hL := by
    have : G.rw (g b) = some L' := hL
    rw [hg b hb] at this
    exact x.rw b hb L' this
  b0 := x.b0
  kp := x.kp
end
end
end Go.Am
