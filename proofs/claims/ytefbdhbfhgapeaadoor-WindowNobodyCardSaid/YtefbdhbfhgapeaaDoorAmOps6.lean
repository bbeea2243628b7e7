/- Am: the elements of a slice in the machine's memory; append; copy. -/
import Derived.Test.YtefbdhbfhgapeaaDoorAmOps5
import Derived.Laws.IdiomStrings
namespace Go.Am
section
variable {P : Program} {G : Tie} {w : World}

/-- Elements, one behind the other. -/
def RepFlat (G : Tie) (sz : Nat) (rows : List (List V)) (rs : List Value) : Prop :=
  rs.length = rows.length * sz ∧ ∀ i cs, rows[i]? = some cs → cs.length = sz ∧ ∀ j c, cs[j]? = some c → ∃ v, rs[i * sz + j]? = some v ∧ RepV G c v

theorem divmod_row {sz n k : Nat} (h : k < n * sz) : ∃ i j, i < n ∧ j < sz ∧ k = i * sz + j := by
  have hs : 0 < sz := by
    rcases Nat.eq_zero_or_pos sz with e | e
    · subst e; simp at h
    · exact e
  refine ⟨k / sz, k % sz, ?_, Nat.mod_lt _ hs, ?_⟩
  · exact (Nat.div_lt_iff_lt_mul hs).2 h
  · have := Nat.div_add_mod k sz
    rw [Nat.mul_comm] at this
    exact this.symm

theorem row_index_inj {sz i j i' j' : Nat} (hj : j < sz) (hj' : j' < sz) (h : i * sz + j = i' * sz + j') : i = i' ∧ j = j' := by
  have hs : 0 < sz := by omega
  have h1 : (i * sz + j) / sz = i := by rw [Nat.mul_comm, Nat.mul_add_div hs, Nat.div_eq_of_lt hj]; rfl
  have h2 : (i' * sz + j') / sz = i' := by rw [Nat.mul_comm, Nat.mul_add_div hs, Nat.div_eq_of_lt hj']; rfl
  have : i = i' := by rw [← h1, h, h2]
  subst this
  exact ⟨rfl, by omega⟩

theorem RepFlat.append {sz : Nat} {xs ys : List (List V)} {rs ss : List Value} (h : RepFlat G sz xs rs) (k : RepFlat G sz ys ss) : RepFlat G sz (xs ++ ys) (rs ++ ss) := by
  refine ⟨by simp [h.1, k.1, Nat.add_mul], fun i cs hi => ?_⟩
  by_cases hl : i < xs.length
  · rw [List.getElem?_append_left hl] at hi
    obtain ⟨h1, h2⟩ := h.2 i cs hi
    refine ⟨h1, fun j c hj => ?_⟩
    obtain ⟨v, h3, h4⟩ := h2 j c hj
    exact ⟨v, by rw [List.getElem?_append_left (List.getElem?_eq_some_iff.1 h3).1]; exact h3, h4⟩
  · rw [List.getElem?_append_right (by omega)] at hi
    obtain ⟨h1, h2⟩ := k.2 _ cs hi
    refine ⟨h1, fun j c hj => ?_⟩
    obtain ⟨v, h3, h4⟩ := h2 j c hj
    have hge : xs.length * sz ≤ i * sz := Nat.mul_le_mul_right _ (by omega)
    have hsub : (i - xs.length) * sz = i * sz - xs.length * sz := Nat.sub_mul _ _ _
    refine ⟨v, ?_, h4⟩
    rw [List.getElem?_append_right (by rw [h.1]; omega), h.1, show i * sz + j - xs.length * sz = (i - xs.length) * sz + j by omega]
    exact h3

theorem RepFlat.blk {sz : Nat} {xs : List (List V)} {rs : List Value} {rest : List Value} (h : RepFlat G sz xs rs) (h1 : ∀ r ∈ xs, r.all oneCell = true) : RepBlk G sz (rs ++ rest).toArray xs := by
  intro i cs hi
  obtain ⟨h2, h3⟩ := h.2 i cs hi
  refine ⟨h2, h1 cs (List.mem_of_getElem? hi), fun j c hj => ?_⟩
  obtain ⟨v, h4, h5⟩ := h3 j c hj
  exact ⟨v, by rw [List.getElem?_toArray, List.getElem?_append_left (List.getElem?_eq_some_iff.1 h4).1]; exact h4, h5⟩

theorem RepFlat.ext {G G' : Tie} (x : Ext G G') {sz : Nat} {xs : List (List V)} {rs : List Value} (h : RepFlat G sz xs rs) : RepFlat G' sz xs rs :=
  ⟨h.1, fun i cs hi => ⟨(h.2 i cs hi).1, fun j c hj => let ⟨v, a, b⟩ := (h.2 i cs hi).2 j c hj; ⟨v, a, b.ext x⟩⟩⟩

theorem RepFlat.one {sz : Nat} {xs : List (List V)} {rs : List Value} (h : RepFlat G sz xs rs) (h1 : ∀ r ∈ xs, r.all oneCell = true) : ∀ v ∈ rs, v.oneCell' = true := by
  intro v hv
  obtain ⟨k, hk⟩ := List.getElem?_of_mem hv
  have hlt := (List.getElem?_eq_some_iff.1 hk).1
  rw [h.1] at hlt
  obtain ⟨i, j, hi, hj, rfl⟩ := divmod_row hlt
  have hcs : xs[i]? = some xs[i] := List.getElem?_eq_getElem hi
  obtain ⟨h2, h3⟩ := h.2 i _ hcs
  have hc : xs[i][j]? = some (xs[i][j]'(by omega)) := List.getElem?_eq_getElem (by omega)
  obtain ⟨u, h4, h5⟩ := h3 j _ hc
  rw [hk] at h4
  injection h4 with h4
  subst h4
  apply h5.one
  have := h1 _ (List.mem_of_getElem? hcs)
  rw [List.all_eq_true] at this
  exact this _ (List.mem_of_getElem? hc)

/-- Cells that can be read, as a list. -/
theorem flat_of_cells {sz b o : Nat} {rows : List (List V)} (h : ∀ i cs, rows[i]? = some cs → cs.length = sz ∧ ∀ j c, cs[j]? = some c → ∃ v, w.cell? ⟨b, o + (i * sz + j), none⟩ = some v ∧ RepV G c v) :
    ∃ rs : List Value, RepFlat G sz rows rs ∧ ∀ j v, rs[j]? = some v → w.cell? ⟨b, o + j, none⟩ = some v := by
  refine ⟨(List.range (rows.length * sz)).map fun k => (w.cell? ⟨b, o + k, none⟩).getD undef, ⟨by simp, fun i cs hi => ?_⟩, fun k v hk => ?_⟩
  · obtain ⟨h1, h2⟩ := h i cs hi
    refine ⟨h1, fun j c hj => ?_⟩
    obtain ⟨v, h3, h4⟩ := h2 j c hj
    have hi' := (List.getElem?_eq_some_iff.1 hi).1
    have hj' := (List.getElem?_eq_some_iff.1 hj).1
    have : i * sz + j < rows.length * sz := by
      have : (i + 1) * sz ≤ rows.length * sz := Nat.mul_le_mul_right _ (by omega)
      rw [Nat.add_mul] at this
      omega
    exact ⟨v, by simp [this, h3], h4⟩
  · have hlt : k < rows.length * sz := by
      have := (List.getElem?_eq_some_iff.1 hk).1
      simpa using this
    obtain ⟨i, j, hi, hj, rfl⟩ := divmod_row hlt
    have hcs : rows[i]? = some rows[i] := List.getElem?_eq_getElem hi
    obtain ⟨h2, h3⟩ := h i _ hcs
    have hc : rows[i][j]? = some (rows[i][j]'(by omega)) := List.getElem?_eq_getElem (by omega)
    obtain ⟨u, h4, h5⟩ := h3 j _ hc
    simp [hlt, h4] at hk
    subst hk
    exact h4

/-- The elements of a slice, in the machine's memory. -/
theorem elems_run {h : Heap} (R : Rel G h w) {sz : Nat} {x : V} {rx : Value} {rows : List (List V)} (hx : RepV G x rx) (he : elems sz h x = some rows) :
    ∃ a cap rs, rx = .slice a rows.length cap ∧ rows.length ≤ cap ∧ RepFlat G sz rows rs ∧ (rows ≠ [] → ∃ b o, a = some ⟨b, o, none⟩ ∧ ∀ j v, rs[j]? = some v → w.cell? ⟨b, o + j, none⟩ = some v) := by
  unfold elems at he
  split at he
  · rename_i ex z rs
    split at he
    · rename_i hz
      injection he with he; subst he
      simp only [RepV] at hx
      obtain ⟨a, cap, rfl, hl, hex, hg, b, o, ha, _, hR⟩ := hx
      by_cases hne : rs = []
      · subst hne
        exact ⟨a, cap, [], rfl, hl, ⟨by simp, by simp⟩, by simp⟩
      · have hzs : z = sz := by
          simp only [Bool.or_eq_true, beq_iff_eq] at hz
          rcases hz with hz | hz
          · exact absurd (List.isEmpty_iff.1 hz) hne
          · exact hz
        subst hzs
        obtain ⟨vs, h1, h2⟩ := flat_of_cells (G := G) (w := w) (sz := z) (b := b) (o := o) (rows := rs) (fun i cs hi => by
          obtain ⟨h3, h4⟩ := hR.get hi
          refine ⟨h3, fun j c hj => ?_⟩
          obtain ⟨v, h5, h6⟩ := h4.get hj
          exact ⟨v, by rw [← Nat.add_assoc]; exact R.fz _ _ _ h5, h6⟩)
        exact ⟨a, cap, vs, rfl, hl, h1, fun _ => ⟨b, o, ha hne, h2⟩⟩
    · simp at he
  · rename_i b e off len
    split at he
    · rename_i z rs hr
      split at he
      · rename_i hc
        obtain ⟨rfl, hol⟩ := hc
        injection he with he; subst he
        obtain ⟨ty, eq, hpos, L, rs', hL, hLe, hLs, hcp, hw, hsz, hB⟩ := R.rowAt hr
        simp only [RepV] at hx
        obtain ⟨hb, a, cap, rfl, hLx⟩ := hx
        obtain ⟨hlc, hoc, haa⟩ := (hLx L hL).2 hLe.symm
        have hlen : ((rs.drop off).take len).length = len := by simp; omega
        obtain ⟨vs, h1, h2⟩ := flat_of_cells (G := G) (w := w) (sz := z) (b := L.blk) (o := off * z) (rows := (rs.drop off).take len) (fun i cs hi => by
          rw [List.getElem?_take] at hi
          split at hi
          · rw [List.getElem?_drop] at hi
            obtain ⟨h3, _, h4⟩ := hB _ _ hi
            refine ⟨h3, fun j c hj => ?_⟩
            obtain ⟨v, h5, h6⟩ := h4 j c hj
            refine ⟨v, ?_, h6⟩
            rw [cell_of_heap hw, ← h5, Nat.add_mul]
            congr 1
            omega
          · simp at hi)
        refine ⟨some a, cap, vs, by rw [hlen], by rw [hlen]; exact hlc, h1, fun hne => ⟨L.blk, off * z, ?_, h2⟩⟩
        have : 0 < len := by
          rcases Nat.eq_zero_or_pos len with e0 | e0
          · subst e0; simp at hne
          · exact e0
        rw [haa (by omega), hLs]
      · simp at he
    · simp at he
  · injection he with he; subst he
    obtain rfl := hx.sc_inv
    exact ⟨none, 0, [], rfl, Nat.le_refl _, ⟨by simp, by simp⟩, by simp⟩
  · simp at he

theorem bytesOut_flat (G : Tie) (s : ByteArray) : RepFlat G 1 (bytesOut s) (s.data.toList.map fun c => Value.int .u8 c.toNat) := by
  refine ⟨by simp [bytesOut], fun i cs hi => ?_⟩
  simp only [bytesOut, List.getElem?_map, Option.map_eq_some_iff] at hi
  obtain ⟨c, hc, rfl⟩ := hi
  refine ⟨rfl, fun j d hj => ?_⟩
  cases j with
  | succ j => simp at hj
  | zero =>
    simp only [List.getElem?_cons_zero, Option.some.injEq] at hj
    subst hj
    exact ⟨_, by simp [hc], RepV.int _ _ _⟩

/-- What is appended or copied. -/
theorem src_run {h : Heap} (R : Rel G h w) {sz : Nat} {x : V} {rx : Value} {new : List (List V)} (hx : RepV G x rx) (he : srcRows sz h x = some new) :
    ∃ news, RepFlat G sz new news ∧ (∀ w2, (Builtin.lenOf rx).run P w2 = .ok new.length w2) ∧
      (∀ w2 n, w2.heap = w.heap → n ≤ new.length → (Builtin.firstCells sz n rx).run P w2 = .ok (news.take (n * sz)).toArray w2) := by
  unfold srcRows at he
  split at he
  · rename_i s
    split at he
    · rename_i hz
      subst hz
      injection he with he; subst he
      obtain rfl := hx.sc_inv
      refine ⟨_, bytesOut_flat G s, fun w2 => ?_, fun w2 n hw hn => ?_⟩
      · simp [Builtin.lenOf, bytesOut]
      · simp only [Builtin.firstCells, Sem.run_pure, Nat.mul_one]
        congr 1
        apply Array.ext'
        simp only [Array.toList_map, ← List.map_take]
        congr 1
        show ((s.extract 0 n).data).toList = _
        simp [ByteArray.extract, ByteArray.copySlice]
    · simp at he
  · obtain ⟨a, cap, rs, rfl, _, h1, h2⟩ := elems_run R hx he
    refine ⟨rs, h1, fun w2 => by simp [Builtin.lenOf], fun w2 n hw hn => ?_⟩
    by_cases hne : new = []
    · subst hne
      have hn0 : n = 0 := by simpa using hn
      subst hn0
      cases a <;> simp [Builtin.firstCells, loadCells, loadCellsFrom]
    · obtain ⟨b, o, rfl, h3⟩ := h2 hne
      have hl : (rs.take (n * sz)).length = n * sz := by
        rw [List.length_take, h1.1, Nat.min_eq_left (Nat.mul_le_mul_right sz hn)]
      have := run_loadCells_list (P := P) w2 ⟨b, o, none⟩ (rs.take (n * sz)) (fun j v hj => by
        rw [add_none]
        have hj' : rs[j]? = some v := by
          rw [List.getElem?_take] at hj
          split at hj
          · exact hj
          · simp at hj
        have := h3 j v hj'
        unfold World.cell? at this ⊢
        rwa [hw])
      rw [hl] at this
      simpa [Builtin.firstCells] using this

theorem growElem_inv {e : TypeId} {sz : Nat} (h : growElem P e = some sz) : ∃ i z, P.info? e = some i ∧ i.zero = some z ∧ i.size = sz ∧ 0 < sz ∧ i.bytes ≤ 1024 ∧ z.cells.size = sz := by
  simp only [growElem, Option.bind_eq_some_iff] at h
  obtain ⟨i, hi, z, hz, h⟩ := h
  split at h
  · rename_i hc
    injection h with h; subst h
    exact ⟨i, z, hi, hz, rfl, hc.1, hc.2.1, hc.2.2⟩
  · simp at h

theorem append_room_raw {t u ty e : TypeId} {i : TypeInfo} {a : Option Addr} {sLen cap n : Nat} {rx : Value} {news : List Value} {w' : World} (ht : P.underlying t = some (.slice e))
    (hu : P.underlying u = some .string ∨ ∃ e', P.underlying u = some (.slice e'))
    (hi : P.info? e = some i) (hl : (Builtin.lenOf rx).run P w = .ok n w) (hf : (Builtin.firstCells i.size n rx).run P w = .ok news.toArray w) (hroom : sLen + n ≤ cap)
    (hst : ∀ b, a = some b → (storeCells (b.add (sLen * i.size)) news).run P w = .ok () w') (hno : a = none → w' = w) :
    (Builtin.append_ #[t, u] ty #[.slice a sLen cap, rx]).run P w = .ok (.slice a (sLen + n) cap) w' := by
  rcases hu with hu | ⟨e', hu⟩
  · cases a with
    | none =>
      have := hno rfl
      subst this
      simp [Builtin.append_, run_underlying ht, run_underlying hu, sizeOf, typeInfo, hi, hl, hroom, hf]
    | some b =>
      have := hst b rfl
      simp [Builtin.append_, run_underlying ht, run_underlying hu, sizeOf, typeInfo, hi, hl, hroom, hf, this]
  · cases a with
    | none =>
      have := hno rfl
      subst this
      simp [Builtin.append_, run_underlying ht, run_underlying hu, sizeOf, typeInfo, hi, hl, hroom, hf]
    | some b =>
      have := hst b rfl
      simp [Builtin.append_, run_underlying ht, run_underlying hu, sizeOf, typeInfo, hi, hl, hroom, hf, this]

theorem append_grow_raw {t u ty e : TypeId} {i : TypeInfo} {z : Value} {a : Option Addr} {sLen cap n : Nat} {rx : Value} {olds news : List Value} (ht : P.underlying t = some (.slice e))
    (hu : P.underlying u = some .string ∨ ∃ e', P.underlying u = some (.slice e'))
    (hi : P.info? e = some i) (hz : i.zero = some z) (hl : (Builtin.lenOf rx).run P w = .ok n w) (hf : (Builtin.firstCells i.size n rx).run P w.drew = .ok news.toArray w.drew)
    (hfo : (Builtin.firstCells i.size sLen (.slice a sLen cap)).run P w.drew = .ok olds.toArray w.drew) (hroom : cap < sLen + n) (hb : i.bytes ≤ 1024) (hlim : sLen + n ≤ lim) :
    (Builtin.append_ #[t, u] ty #[.slice a sLen cap, rx]).run P w = .ok (.slice (some ⟨w.heap.size, 0, none⟩) (sLen + n) (grownCap w (sLen + n) cap e))
      (w.drew.alloc (.cells (olds ++ news ++ (Builtin.zeroCells z.cells (grownCap w (sLen + n) cap e - (sLen + n))).toList).toArray e (0, 0))) := by
  unfold lim at hlim
  have hn : ¬ (sLen + n ≤ cap) := by omega
  have h63' : ¬ (9223372036854775807 < ((sLen : Int) + (n : Int))) := by omega
  have hby : (sLen + n) * i.bytes ≤ 140737488355328 := by
    have h1 : (sLen + n) * i.bytes ≤ (sLen + n) * 1024 := Nat.mul_le_mul_left _ hb
    omega
  have hfit := growslice_fits (bytes := i.bytes) (show cap < sLen + n by omega) hby
  have h48' : ¬ (281474976710656 < Builtin.nextslicecap (sLen + n) cap * i.bytes) := by omega
  rcases hu with hu | ⟨e', hu⟩
  · simp [Builtin.append_, run_underlying ht, run_underlying hu, sizeOf, typeInfo, zeroValue, hi, hz, hl, hn, h63', h48', Question.forced, newRow, hf, hfo, grownCap]
    congr 2
    apply Array.ext'
    simp
  · simp [Builtin.append_, run_underlying ht, run_underlying hu, sizeOf, typeInfo, zeroValue, hi, hz, hl, hn, h63', h48', Question.forced, newRow, hf, hfo, grownCap]
    congr 2
    apply Array.ext'
    simp

end
end Go.Am
