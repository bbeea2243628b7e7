/- Am: what literals lay; new memory. -/
import Derived.Test.YtefbdhbfhgapeaaDoorAmOps7
import Derived.Laws.Tables
import Derived.Laws.MakeOwn
namespace Go.Am
section
variable {P : Program} {G : Tie} {w : World}

def All2 {α β : Type} (R : α → β → Prop) : List α → List β → Prop
  | [], bs => bs = []
  | a :: as, bs => ∃ b rest, bs = b :: rest ∧ R a b ∧ All2 R as rest

theorem fold_set : ∀ (vs : List Value) (k off : Nat) (cells : Array Value), off + k + vs.length ≤ cells.size →
    ((vs.zipIdx k).foldl (fun cs p => cs.setIfInBounds (off + p.2) p.1) cells).toList = cells.toList.take (off + k) ++ vs ++ cells.toList.drop (off + k + vs.length)
  | [], k, off, cells, _ => by simp
  | v :: vs, k, off, cells, h => by
    simp only [List.length_cons] at h
    simp only [List.zipIdx_cons, List.foldl_cons]
    rw [fold_set vs (k + 1) off _ (by simp; omega)]
    have e := list_seg_step cells.toList (off + k) v vs (by simp; omega)
    simp only [Array.toList_setIfInBounds, List.length_cons]
    rw [show off + (k + 1) = off + k + 1 by omega]
    exact e

theorem fold_setA (vs : Array Value) (off : Nat) (cells : Array Value) (h : off + vs.size ≤ cells.size) :
    (vs.zipIdx.foldl (fun cs (p : Value × Nat) => cs.setIfInBounds (off + p.2) p.1) cells).toList = cells.toList.take off ++ vs.toList ++ cells.toList.drop (off + vs.toList.length) := by
  rw [← Array.foldl_toList, Array.toList_zipIdx]
  have := fold_set vs.toList 0 off cells (by simpa using h)
  simpa using this

theorem fillParts_run (place : Nat → Option (Nat × Nat)) : ∀ {ps : List (Nat × Nat × V)} {rs : List (Nat × Value)} {zs cs : List V} {cells : Array Value}, RepL G zs cells.toList → fillParts zs ps = some cs →
    All2 (fun p r => place r.1 = some (p.1, p.2.1) ∧ RepV G p.2.2 r.2) ps rs → ∃ cells', Instr.fill place cells rs = some cells' ∧ RepL G cs cells'.toList
  | [], rs, zs, cs, cells, hz, h, hf => by
    simp only [All2] at hf
    subst hf
    simp only [fillParts, Option.some.injEq] at h
    subst h
    exact ⟨cells, rfl, hz⟩
  | (off, sz, v) :: ps, rs, zs, cs, cells, hz, h, hf => by
    simp only [All2] at hf
    obtain ⟨⟨i, rv⟩, rs, rfl, ⟨hp, hv⟩, hf⟩ := hf
    · simp only at hp hv
      unfold fillParts at h
      split at h
      · rename_i hc
        obtain ⟨hl, hone, hle⟩ := hc
        have hvu : v ≠ .undef := by
          rintro rfl
          simp [V.cells, oneCell] at hone
        have hcells := hv.cells hvu
        have hsz : rv.cells.size = sz := by rw [← Array.length_toList, hcells.length, hl]
        have hzl : cells.size = zs.length := by rw [← Array.length_toList, hz.length]
        have hput := hz.put (off := off) hcells
        unfold Instr.fill
        simp only [hp]
        rw [if_neg (by simp [hsz]; omega)]
        refine fillParts_run place ?_ h hf
        rw [fold_setA _ _ _ (by omega)]
        exact hput
      · simp at h

theorem fillRows_run {sz n : Nat} : ∀ {ps : List (Nat × V)} {rs : List (Nat × Value)} {zs cs : List (List V)} {cells : Array Value}, RepFlat G sz zs cells.toList → fillRows sz zs ps = some cs →
    All2 (fun p r => p.1 = r.1 ∧ RepV G p.2 r.2) ps rs → ∃ cells', Instr.fill (fun i => some (i * sz, sz)) cells rs = some cells' ∧ RepFlat G sz cs cells'.toList
  | [], rs, zs, cs, cells, hz, h, hf => by
    simp only [All2] at hf
    subst hf
    simp only [fillRows, Option.some.injEq] at h
    subst h
    exact ⟨cells, rfl, hz⟩
  | (i, v) :: ps, rs, zs, cs, cells, hz, h, hf => by
    simp only [All2] at hf
    obtain ⟨⟨i', rv⟩, rs, rfl, ⟨hii, hv⟩, hf⟩ := hf
    · simp only at hii hv
      subst hii
      unfold fillRows at h
      split at h
      · rename_i hc
        obtain ⟨hl, hone, hlt⟩ := hc
        have hvu : v ≠ .undef := by
          rintro rfl
          simp [V.cells, oneCell] at hone
        have hcells := hv.cells hvu
        have hsz : rv.cells.size = sz := by rw [← Array.length_toList, hcells.length, hl]
        have hzl : cells.size = zs.length * sz := by rw [← Array.length_toList, hz.1]
        have hroom : i * sz + sz ≤ cells.size := row_room hzl (Nat.le_refl _) hlt
        unfold Instr.fill
        simp only
        rw [if_neg (by simp [hsz]; omega)]
        refine fillRows_run (n := n) ?_ h hf
        rw [fold_setA _ _ _ (by omega)]
        have hrl : rv.cells.toList.length = sz := by simpa using hsz
        refine ⟨by rw [List.length_append, List.length_append, List.length_take, List.length_drop, Array.length_toList, hrl, List.length_set, Nat.min_eq_left (by omega)]; omega, fun k cs' hk => ?_⟩
        by_cases e : k = i
        · subst e
          rw [List.getElem?_set_self hlt] at hk
          injection hk with hk
          subst hk
          refine ⟨hl, fun j c hj => ?_⟩
          obtain ⟨u, h2, h3⟩ := hcells.get hj
          have hjl := (List.getElem?_eq_some_iff.1 hj).1
          refine ⟨u, ?_, h3⟩
          rw [getElem?_put _ _ _ _ (by simp [hrl]; omega), if_pos (by omega), show k * sz + j - k * sz = j by omega]
          exact h2
        · rw [List.getElem?_set_ne (by omega)] at hk
          obtain ⟨h2, h3⟩ := hz.2 k cs' hk
          refine ⟨h2, fun j c hj => ?_⟩
          obtain ⟨u, h4, h5⟩ := h3 j c hj
          have hjl := (List.getElem?_eq_some_iff.1 hj).1
          refine ⟨u, ?_, h5⟩
          rw [getElem?_put _ _ _ _ (by simp [hrl]; omega), if_neg]
          · exact h4
          · intro hh
            obtain ⟨hh1, hh2⟩ := hh
            have := row_index_inj (sz := sz) (i := k) (j := j) (i' := i) (j' := k * sz + j - i * sz) (by omega) (by omega) (by omega)
            exact e this.1
      · simp at h

theorem made_flat {sz n : Nat} {z : Array Value} {zs : List V} (hz : scsOf z.toList = some zs) (hs : z.size = sz) : RepFlat G sz (List.replicate n zs) (madeCells z (n * sz)).toList := by
  have hrep : RepL G zs z.toList := scsOf_rep hz
  refine ⟨by simp [size_madeCells], fun i cs hi => ?_⟩
  rw [List.getElem?_replicate] at hi
  split at hi
  · rename_i hlt
    injection hi with hi
    subst hi
    have hzl : zs.length = sz := by rw [← hrep.length]; simpa using hs
    refine ⟨hzl, fun j c hj => ?_⟩
    obtain ⟨u, h1, h2⟩ := hrep.get hj
    have hjl := (List.getElem?_eq_some_iff.1 hj).1
    refine ⟨u, ?_, h2⟩
    have hb : i * sz + j < n * sz := by
      have : (i + 1) * sz ≤ n * sz := Nat.mul_le_mul_right _ (by omega)
      rw [Nat.add_mul] at this
      omega
    have hm : (i * sz + j) % z.size = j := by
      rw [hs, Nat.mul_comm, Nat.mul_add_mod, Nat.mod_eq_of_lt (by omega)]
    rw [Array.getElem?_toList] at h1 ⊢
    unfold madeCells
    simp only [Array.getElem?_map, Array.getElem?_range, hb, if_true, Option.map_some, hm]
    rw [getElem!_pos z j (by omega)]
    have := (Array.getElem?_eq_some_iff.1 h1).2
    rw [this]
  · simp at hi

/-- New memory that is never written again. -/
def Tie.newFz (G : Tie) (k : Nat) (cells : Array Value) : Tie := { G with fz := fun b o => if b = k then cells[o]? else G.fz b o }

theorem Ext.newFz {G : Tie} {h : Heap} {w : World} (R : Rel G h w) (cells : Array Value) : Ext G (G.newFz w.heap.size cells) where
  fz b o v hv := by
    simp only [Tie.newFz]
    rw [if_neg]
    · exact hv
    · rintro rfl
      rw [R.fz_new] at hv
      simp at hv
  n := Nat.le_refl _
  bx _ _ := rfl
  rw _ _ L h := ⟨L, h, Nat.le_refl _, fun _ => rfl⟩
  b0 := rfl

theorem Rel.newFz {G : Tie} {h : Heap} {w : World} (R : Rel G h w) (cells : Array Value) (ty : TypeId) (fr : Nat × Nat) : Rel (G.newFz w.heap.size cells) h (w.alloc (.cells cells ty fr)) := by
  have x := Ext.newFz R cells
  have R' := R.world (w' := w.alloc (.cells cells ty fr)) (by simp) (fun k hk => heap_alloc_lt _ _ _ hk)
  have hreal : ∀ b, (G.newFz w.heap.size cells).real h b = G.real h b := fun _ => rfl
  refine ⟨R.n, ?_, ?_, ?_, ?_, ?_, R'.hb0⟩
  · intro b o v hv
    simp only [Tie.newFz] at hv
    split at hv
    · rename_i e
      subst e
      unfold World.cell?
      rw [heap_alloc_eq]
      simpa using hv
    · exact R'.fz b o v hv
  · intro b t cs e
    obtain ⟨h1, rs, h2, h3⟩ := R'.box b t cs e
    exact ⟨h1, rs, h2, h3.ext x⟩
  · intro b t sz e rows eq
    obtain ⟨h0, L, rs, h1, h2, h3, h4, h5, h6, h7⟩ := R'.row b t sz e rows eq
    exact ⟨h0, L, rs, h1, h2, h3, h4, h5, h6, h7.ext x⟩
  · intro b k hk
    rw [hreal] at hk
    refine ⟨(R.low b k hk).1, fun o => ?_⟩
    simp only [Tie.newFz]
    have := R.lt hk
    rw [if_neg (by omega)]
    exact (R.low b k hk).2 o
  · intro b b' k h1 h2
    exact R.inj b b' k h1 h2

/-- A new slice of elements that are never written. -/
theorem Rel.newSlc {G : Tie} {h : Heap} {w : World} (R : Rel G h w) {ex : Cp} {sz : Nat} {rows : List (List V)} {cells : List Value} {rest : List Value} {cap : Nat} (hf : RepFlat G sz rows cells) (hg : (rows.all fun r => r.all ground) = true)
    (hc : rows.length ≤ cap) (hex : ex.isFull = true → cap = rows.length) (ty : TypeId) (fr : Nat × Nat) :
    Rel (G.newFz w.heap.size (cells ++ rest).toArray) h (w.alloc (.cells (cells ++ rest).toArray ty fr)) ∧ RepV (G.newFz w.heap.size (cells ++ rest).toArray) (.slc ex sz rows) (.slice (some ⟨w.heap.size, 0, none⟩) rows.length cap) := by
  refine ⟨R.newFz _ ty fr, ?_⟩
  have x := Ext.newFz R (cells ++ rest).toArray
  simp only [RepV]
  refine ⟨_, _, rfl, hc, hex, hg, w.heap.size, 0, fun _ => rfl, fun _ _ => R.hb0, RepRows.of_get fun i cs hi => ?_⟩
  obtain ⟨h1, h2⟩ := hf.2 i cs hi
  refine ⟨h1, RepF.of_get fun j c hj => ?_⟩
  obtain ⟨v, h3, h4⟩ := h2 j c hj
  refine ⟨v, ?_, h4.ext x⟩
  simp only [Tie.newFz, if_true]
  rw [List.getElem?_toArray, Nat.zero_add, List.getElem?_append_left (List.getElem?_eq_some_iff.1 h3).1]
  exact h3

end
end Go.Am
