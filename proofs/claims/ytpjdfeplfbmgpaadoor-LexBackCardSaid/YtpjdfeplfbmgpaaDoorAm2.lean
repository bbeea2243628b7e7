/- The abstract machine and what is proved in it, part 2. -/
import Derived.Test.YtpjdfeplfbmgpaaDoorAm1
import Derived.Laws.IdiomStrings
import Derived.Laws.Tables
import Derived.Laws.MakeOwn
import Derived.Lib.Builder
import Derived.Lib.UnsafeStr
import Derived.LaidEql
import Derived.MapKept
import Derived.LoopN
import Derived.Orders
section
/- Am: the elements of a slice in the machine's memory; append; copy. -/
namespace Go.Am
section
variable {P : Program} {G : Tie} {w : World}

/-- Elements, one behind the other. -/
def RepFlat (G : Tie) (sz : Nat) (rows : List (List V)) (rs : List Value) : Prop :=
  rs.length = rows.length * sz ∧ ∀ i cs, rows[i]? = some cs → cs.length = sz ∧ ∀ j c, cs[j]? = some c → ∃ v, rs[i * sz + j]? = some v ∧ RepV G c v

theorem divmod_row {sz n k : Nat} (h : k < n * sz) : ∃ i j, i < n ∧ j < sz ∧ k = i * sz + j := by
  have hs : 0 < sz := by
    rcases Nat.eq_zero_or_pos sz with e | e
    · subst e; simp at h
    · exact e
  refine ⟨k / sz, k % sz, ?_, Nat.mod_lt _ hs, ?_⟩
  · exact (Nat.div_lt_iff_lt_mul hs).2 h
  · have := Nat.div_add_mod k sz
    rw [Nat.mul_comm] at this
    exact this.symm

theorem row_index_inj {sz i j i' j' : Nat} (hj : j < sz) (hj' : j' < sz) (h : i * sz + j = i' * sz + j') : i = i' ∧ j = j' := by
  have hs : 0 < sz := by omega
  have h1 : (i * sz + j) / sz = i := by rw [Nat.mul_comm, Nat.mul_add_div hs, Nat.div_eq_of_lt hj]; rfl
  have h2 : (i' * sz + j') / sz = i' := by rw [Nat.mul_comm, Nat.mul_add_div hs, Nat.div_eq_of_lt hj']; rfl
  have : i = i' := by rw [← h1, h, h2]
  subst this
  exact ⟨rfl, by omega⟩

theorem RepFlat.append {sz : Nat} {xs ys : List (List V)} {rs ss : List Value} (h : RepFlat G sz xs rs) (k : RepFlat G sz ys ss) : RepFlat G sz (xs ++ ys) (rs ++ ss) := by
  refine ⟨by simp [h.1, k.1, Nat.add_mul], fun i cs hi => ?_⟩
  by_cases hl : i < xs.length
  · rw [List.getElem?_append_left hl] at hi
    obtain ⟨h1, h2⟩ := h.2 i cs hi
    refine ⟨h1, fun j c hj => ?_⟩
    obtain ⟨v, h3, h4⟩ := h2 j c hj
    exact ⟨v, by rw [List.getElem?_append_left (List.getElem?_eq_some_iff.1 h3).1]; exact h3, h4⟩
  · rw [List.getElem?_append_right (by omega)] at hi
    obtain ⟨h1, h2⟩ := k.2 _ cs hi
    refine ⟨h1, fun j c hj => ?_⟩
    obtain ⟨v, h3, h4⟩ := h2 j c hj
    have hge : xs.length * sz ≤ i * sz := Nat.mul_le_mul_right _ (by omega)
    have hsub : (i - xs.length) * sz = i * sz - xs.length * sz := Nat.sub_mul _ _ _
    refine ⟨v, ?_, h4⟩
    rw [List.getElem?_append_right (by rw [h.1]; omega), h.1, show i * sz + j - xs.length * sz = (i - xs.length) * sz + j by omega]
    exact h3

theorem RepFlat.blk {sz : Nat} {xs : List (List V)} {rs : List Value} {rest : List Value} (h : RepFlat G sz xs rs) (h1 : ∀ r ∈ xs, r.all oneCell = true) : RepBlk G sz (rs ++ rest).toArray xs := by
  intro i cs hi
  obtain ⟨h2, h3⟩ := h.2 i cs hi
  refine ⟨h2, h1 cs (List.mem_of_getElem? hi), fun j c hj => ?_⟩
  obtain ⟨v, h4, h5⟩ := h3 j c hj
  exact ⟨v, by rw [List.getElem?_toArray, List.getElem?_append_left (List.getElem?_eq_some_iff.1 h4).1]; exact h4, h5⟩

theorem RepFlat.ext {G G' : Tie} (x : Ext G G') {sz : Nat} {xs : List (List V)} {rs : List Value} (h : RepFlat G sz xs rs) : RepFlat G' sz xs rs :=
  ⟨h.1, fun i cs hi => ⟨(h.2 i cs hi).1, fun j c hj => let ⟨v, a, b⟩ := (h.2 i cs hi).2 j c hj; ⟨v, a, b.ext x⟩⟩⟩

theorem RepFlat.one {sz : Nat} {xs : List (List V)} {rs : List Value} (h : RepFlat G sz xs rs) (h1 : ∀ r ∈ xs, r.all oneCell = true) : ∀ v ∈ rs, v.oneCell' = true := by
  intro v hv
  obtain ⟨k, hk⟩ := List.getElem?_of_mem hv
  have hlt := (List.getElem?_eq_some_iff.1 hk).1
  rw [h.1] at hlt
  obtain ⟨i, j, hi, hj, rfl⟩ := divmod_row hlt
  have hcs : xs[i]? = some xs[i] := List.getElem?_eq_getElem hi
  obtain ⟨h2, h3⟩ := h.2 i _ hcs
  have hc : xs[i][j]? = some (xs[i][j]'(by omega)) := List.getElem?_eq_getElem (by omega)
  obtain ⟨u, h4, h5⟩ := h3 j _ hc
  rw [hk] at h4
  injection h4 with h4
  subst h4
  apply h5.one
  have := h1 _ (List.mem_of_getElem? hcs)
  rw [List.all_eq_true] at this
  exact this _ (List.mem_of_getElem? hc)

/-- Cells that can be read, as a list. -/
theorem flat_of_cells {sz b o : Nat} {rows : List (List V)} (h : ∀ i cs, rows[i]? = some cs → cs.length = sz ∧ ∀ j c, cs[j]? = some c → ∃ v, w.cell? ⟨b, o + (i * sz + j), none⟩ = some v ∧ RepV G c v) :
    ∃ rs : List Value, RepFlat G sz rows rs ∧ ∀ j v, rs[j]? = some v → w.cell? ⟨b, o + j, none⟩ = some v := by
  refine ⟨(List.range (rows.length * sz)).map fun k => (w.cell? ⟨b, o + k, none⟩).getD undef, ⟨by simp, fun i cs hi => ?_⟩, fun k v hk => ?_⟩
  · obtain ⟨h1, h2⟩ := h i cs hi
    refine ⟨h1, fun j c hj => ?_⟩
    obtain ⟨v, h3, h4⟩ := h2 j c hj
    have hi' := (List.getElem?_eq_some_iff.1 hi).1
    have hj' := (List.getElem?_eq_some_iff.1 hj).1
    have : i * sz + j < rows.length * sz := by
      have : (i + 1) * sz ≤ rows.length * sz := Nat.mul_le_mul_right _ (by omega)
      rw [Nat.add_mul] at this
      omega
    exact ⟨v, by simp [this, h3], h4⟩
  · have hlt : k < rows.length * sz := by
      have := (List.getElem?_eq_some_iff.1 hk).1
      simpa using this
    obtain ⟨i, j, hi, hj, rfl⟩ := divmod_row hlt
    have hcs : rows[i]? = some rows[i] := List.getElem?_eq_getElem hi
    obtain ⟨h2, h3⟩ := h i _ hcs
    have hc : rows[i][j]? = some (rows[i][j]'(by omega)) := List.getElem?_eq_getElem (by omega)
    obtain ⟨u, h4, h5⟩ := h3 j _ hc
    simp [hlt, h4] at hk
    subst hk
    exact h4

/-- The elements of a slice, in the machine's memory. -/
theorem elems_run {h : Heap} (R : Rel G h w) {sz : Nat} {x : V} {rx : Value} {rows : List (List V)} (hx : RepV G x rx) (he : elems sz h x = some rows) :
    ∃ a cap rs, rx = .slice a rows.length cap ∧ rows.length ≤ cap ∧ RepFlat G sz rows rs ∧ (rows ≠ [] → ∃ b o, a = some ⟨b, o, none⟩ ∧ ∀ j v, rs[j]? = some v → w.cell? ⟨b, o + j, none⟩ = some v) := by
  unfold elems at he
  split at he
  · rename_i ex z rs
    split at he
    · rename_i hz
      injection he with he; subst he
      simp only [RepV] at hx
      obtain ⟨a, cap, rfl, hl, hex, hg, b, o, ha, _, hR⟩ := hx
      by_cases hne : rs = []
      · subst hne
        exact ⟨a, cap, [], rfl, hl, ⟨by simp, by simp⟩, by simp⟩
      · have hzs : z = sz := by
          simp only [Bool.or_eq_true, beq_iff_eq] at hz
          rcases hz with hz | hz
          · exact absurd (List.isEmpty_iff.1 hz) hne
          · exact hz
        subst hzs
        obtain ⟨vs, h1, h2⟩ := flat_of_cells (G := G) (w := w) (sz := z) (b := b) (o := o) (rows := rs) (fun i cs hi => by
          obtain ⟨h3, h4⟩ := hR.get hi
          refine ⟨h3, fun j c hj => ?_⟩
          obtain ⟨v, h5, h6⟩ := h4.get hj
          exact ⟨v, by rw [← Nat.add_assoc]; exact R.fz _ _ _ h5, h6⟩)
        exact ⟨a, cap, vs, rfl, hl, h1, fun _ => ⟨b, o, ha hne, h2⟩⟩
    · simp at he
  · rename_i b e off len
    split at he
    · rename_i z rs hr
      split at he
      · rename_i hc
        obtain ⟨rfl, hol⟩ := hc
        injection he with he; subst he
        obtain ⟨ty, eq, hpos, L, rs', hL, hLe, hLs, hcp, hw, hsz, hB⟩ := R.rowAt hr
        simp only [RepV] at hx
        obtain ⟨hb, a, cap, rfl, hLx⟩ := hx
        obtain ⟨hlc, hoc, haa⟩ := (hLx L hL).2 hLe.symm
        have hlen : ((rs.drop off).take len).length = len := by simp; omega
        obtain ⟨vs, h1, h2⟩ := flat_of_cells (G := G) (w := w) (sz := z) (b := L.blk) (o := off * z) (rows := (rs.drop off).take len) (fun i cs hi => by
          rw [List.getElem?_take] at hi
          split at hi
          · rw [List.getElem?_drop] at hi
            obtain ⟨h3, _, h4⟩ := hB _ _ hi
            refine ⟨h3, fun j c hj => ?_⟩
            obtain ⟨v, h5, h6⟩ := h4 j c hj
            refine ⟨v, ?_, h6⟩
            rw [cell_of_heap hw, ← h5, Nat.add_mul]
            congr 1
            omega
          · simp at hi)
        refine ⟨some a, cap, vs, by rw [hlen], by rw [hlen]; exact hlc, h1, fun hne => ⟨L.blk, off * z, ?_, h2⟩⟩
        have : 0 < len := by
          rcases Nat.eq_zero_or_pos len with e0 | e0
          · subst e0; simp at hne
          · exact e0
        rw [haa (by omega), hLs]
      · simp at he
    · simp at he
  · injection he with he; subst he
    obtain rfl := hx.sc_inv
    exact ⟨none, 0, [], rfl, Nat.le_refl _, ⟨by simp, by simp⟩, by simp⟩
  · simp at he

theorem bytesOut_flat (G : Tie) (s : ByteArray) : RepFlat G 1 (bytesOut s) (s.data.toList.map fun c => Value.int .u8 c.toNat) := by
  refine ⟨by simp [bytesOut], fun i cs hi => ?_⟩
  simp only [bytesOut, List.getElem?_map, Option.map_eq_some_iff] at hi
  obtain ⟨c, hc, rfl⟩ := hi
  refine ⟨rfl, fun j d hj => ?_⟩
  cases j with
  | succ j => simp at hj
  | zero =>
    simp only [List.getElem?_cons_zero, Option.some.injEq] at hj
    subst hj
    exact ⟨_, by simp [hc], RepV.int _ _ _⟩

/-- What is appended or copied. -/
theorem src_run {h : Heap} (R : Rel G h w) {sz : Nat} {x : V} {rx : Value} {new : List (List V)} (hx : RepV G x rx) (he : srcRows sz h x = some new) :
    ∃ news, RepFlat G sz new news ∧ (∀ w2, (Builtin.lenOf rx).run P w2 = .ok new.length w2) ∧
      (∀ w2 n, w2.heap = w.heap → n ≤ new.length → (Builtin.firstCells sz n rx).run P w2 = .ok (news.take (n * sz)).toArray w2) := by
  unfold srcRows at he
  split at he
  · rename_i s
    split at he
    · rename_i hz
      subst hz
      injection he with he; subst he
      obtain rfl := hx.sc_inv
      refine ⟨_, bytesOut_flat G s, fun w2 => ?_, fun w2 n hw hn => ?_⟩
      · simp [Builtin.lenOf, bytesOut]
      · simp only [Builtin.firstCells, Sem.run_pure, Nat.mul_one]
        congr 1
        apply Array.ext'
        simp only [Array.toList_map, ← List.map_take]
        congr 1
        show ((s.extract 0 n).data).toList = _
        simp [ByteArray.extract, ByteArray.copySlice]
    · simp at he
  · obtain ⟨a, cap, rs, rfl, _, h1, h2⟩ := elems_run R hx he
    refine ⟨rs, h1, fun w2 => by simp [Builtin.lenOf], fun w2 n hw hn => ?_⟩
    by_cases hne : new = []
    · subst hne
      have hn0 : n = 0 := by simpa using hn
      subst hn0
      cases a <;> simp [Builtin.firstCells, loadCells, loadCellsFrom]
    · obtain ⟨b, o, rfl, h3⟩ := h2 hne
      have hl : (rs.take (n * sz)).length = n * sz := by
        rw [List.length_take, h1.1, Nat.min_eq_left (Nat.mul_le_mul_right sz hn)]
      have := run_loadCells_list (P := P) w2 ⟨b, o, none⟩ (rs.take (n * sz)) (fun j v hj => by
        rw [add_none]
        have hj' : rs[j]? = some v := by
          rw [List.getElem?_take] at hj
          split at hj
          · exact hj
          · simp at hj
        have := h3 j v hj'
        unfold World.cell? at this ⊢
        rwa [hw])
      rw [hl] at this
      simpa [Builtin.firstCells] using this

theorem growElem_inv {e : TypeId} {sz : Nat} (h : growElem P e = some sz) : ∃ i z, P.info? e = some i ∧ i.zero = some z ∧ i.size = sz ∧ 0 < sz ∧ i.bytes ≤ 1024 ∧ z.cells.size = sz := by
  simp only [growElem, Option.bind_eq_some_iff] at h
  obtain ⟨i, hi, z, hz, h⟩ := h
  split at h
  · rename_i hc
    injection h with h; subst h
    exact ⟨i, z, hi, hz, rfl, hc.1, hc.2.1, hc.2.2⟩
  · simp at h

theorem append_room_raw {t u ty e : TypeId} {i : TypeInfo} {a : Option Addr} {sLen cap n : Nat} {rx : Value} {news : List Value} {w' : World} (ht : P.underlying t = some (.slice e))
    (hu : P.underlying u = some .string ∨ ∃ e', P.underlying u = some (.slice e'))
    (hi : P.info? e = some i) (hl : (Builtin.lenOf rx).run P w = .ok n w) (hf : (Builtin.firstCells i.size n rx).run P w = .ok news.toArray w) (hroom : sLen + n ≤ cap)
    (hst : ∀ b, a = some b → (storeCells (b.add (sLen * i.size)) news).run P w = .ok () w') (hno : a = none → w' = w) :
    (Builtin.append_ #[t, u] ty #[.slice a sLen cap, rx]).run P w = .ok (.slice a (sLen + n) cap) w' := by
  rcases hu with hu | ⟨e', hu⟩
  · cases a with
    | none =>
      have := hno rfl
      subst this
      simp [Builtin.append_, run_underlying ht, run_underlying hu, sizeOf, typeInfo, hi, hl, hroom, hf]
    | some b =>
      have := hst b rfl
      simp [Builtin.append_, run_underlying ht, run_underlying hu, sizeOf, typeInfo, hi, hl, hroom, hf, this]
  · cases a with
    | none =>
      have := hno rfl
      subst this
      simp [Builtin.append_, run_underlying ht, run_underlying hu, sizeOf, typeInfo, hi, hl, hroom, hf]
    | some b =>
      have := hst b rfl
      simp [Builtin.append_, run_underlying ht, run_underlying hu, sizeOf, typeInfo, hi, hl, hroom, hf, this]

theorem append_grow_raw {t u ty e : TypeId} {i : TypeInfo} {z : Value} {a : Option Addr} {sLen cap n : Nat} {rx : Value} {olds news : List Value} (ht : P.underlying t = some (.slice e))
    (hu : P.underlying u = some .string ∨ ∃ e', P.underlying u = some (.slice e'))
    (hi : P.info? e = some i) (hz : i.zero = some z) (hl : (Builtin.lenOf rx).run P w = .ok n w) (hf : (Builtin.firstCells i.size n rx).run P w.drew = .ok news.toArray w.drew)
    (hfo : (Builtin.firstCells i.size sLen (.slice a sLen cap)).run P w.drew = .ok olds.toArray w.drew) (hroom : cap < sLen + n) (hb : i.bytes ≤ 1024) (hlim : sLen + n ≤ lim) :
    (Builtin.append_ #[t, u] ty #[.slice a sLen cap, rx]).run P w = .ok (.slice (some ⟨w.heap.size, 0, none⟩) (sLen + n) (grownCap w (sLen + n) cap e))
      (w.drew.alloc (.cells (olds ++ news ++ (Builtin.zeroCells z.cells (grownCap w (sLen + n) cap e - (sLen + n))).toList).toArray e (0, 0))) := by
  unfold lim at hlim
  have hn : ¬ (sLen + n ≤ cap) := by omega
  have h63' : ¬ (9223372036854775807 < ((sLen : Int) + (n : Int))) := by omega
  have hby : (sLen + n) * i.bytes ≤ 140737488355328 := by
    have h1 : (sLen + n) * i.bytes ≤ (sLen + n) * 1024 := Nat.mul_le_mul_left _ hb
    omega
  have hfit := growslice_fits (bytes := i.bytes) (show cap < sLen + n by omega) hby
  have h48' : ¬ (281474976710656 < Builtin.nextslicecap (sLen + n) cap * i.bytes) := by omega
  rcases hu with hu | ⟨e', hu⟩
  · simp [Builtin.append_, run_underlying ht, run_underlying hu, sizeOf, typeInfo, zeroValue, hi, hz, hl, hn, h63', h48', Question.forced, newRow, hf, hfo, grownCap]
    congr 2
    apply Array.ext'
    simp
  · simp [Builtin.append_, run_underlying ht, run_underlying hu, sizeOf, typeInfo, zeroValue, hi, hz, hl, hn, h63', h48', Question.forced, newRow, hf, hfo, grownCap]
    congr 2
    apply Array.ext'
    simp

end
end Go.Am
end
section
/- Am: append, copy, make. -/
namespace Go.Am
open Go.RowKit (Below)
section
variable {P : Program} {G : Tie} {w : World}

theorem Rel.drew {G : Tie} {h : Heap} {w : World} (R : Rel G h w) : Rel G h w.drew := R.world (Nat.le_refl _) (fun _ _ => rfl)

theorem grown_size {olds news : List Value} {z : Value} {sz n m cap : Nat} (h1 : olds.length = n * sz) (h2 : news.length = m * sz) (h3 : z.cells.size = sz) (h4 : n + m ≤ cap) :
    (olds ++ news ++ (Builtin.zeroCells z.cells (cap - (n + m))).toList).toArray.size = cap * sz := by
  simp only [List.size_toArray, List.length_append, Array.length_toList, size_zeroCells, h1, h2, h3, ← Nat.add_mul]
  congr 1
  omega

theorem newOk_inv {sz : Nat} {new : List (List V)} (h : newOk sz new = true) : ∀ r ∈ new, r.length = sz ∧ r.all oneCell = true := by
  intro r hr
  unfold newOk at h
  rw [List.all_eq_true] at h
  have := h r hr
  simpa using this

theorem ground_one {r : List V} (h : r.all ground = true) : r.all oneCell = true := by
  rw [List.all_eq_true] at h ⊢
  intro v hv
  have := h v hv
  cases v <;> simp_all [ground, oneCell]

theorem append_run {h h' : Heap} (R : Rel G h w) {t u ty e : TypeId} {sz base : Nat} {s x v : V} {rs rx : Value} {new : List (List V)} (ht : P.underlying t = some (.slice e))
    (hu : P.underlying u = some .string ∨ ∃ e', P.underlying u = some (.slice e')) (hg : growElem P e = some sz) (hs : RepV G s rs) (hx : RepV G x rx) (hsrc : srcRows sz h x = some new)
    (hv : appendV base h e sz s new = some (v, h')) :
    ∃ r w' G', (Builtin.append_ #[t, u] ty #[rs, rx]).run P w = .ok r w' ∧ Ext G G' ∧ Rel G' h' w' ∧ RepV G' v r ∧ Below G.b0 w w' := by
  obtain ⟨i, z, hi, hz, rfl, hpos, hby, hzs⟩ := growElem_inv hg
  obtain ⟨news, hnf, hlen, hfirst⟩ := src_run R hx hsrc
  have hnl : news.length = new.length * i.size := hnf.1
  have hff : ∀ w2 : World, w2.heap = w.heap → (Builtin.firstCells i.size new.length rx).run P w2 = .ok news.toArray w2 := by
    intro w2 h2
    have := hfirst w2 new.length h2 (Nat.le_refl _)
    rwa [← hnl, List.take_length] at this
  unfold appendV at hv
  split at hv
  · -- nothing is appended
    simp only [Option.map_eq_some_iff, Prod.mk.injEq] at hv
    obtain ⟨rows, hel, rfl, rfl⟩ := hv
    have hn0 : news = [] := List.eq_nil_of_length_eq_zero (by simpa using hnl)
    subst hn0
    obtain ⟨a, cap, olds, rfl, hlc, _, _⟩ := elems_run R hs hel
    refine ⟨_, w, G, append_room_raw (n := 0) (news := []) ht hu hi (hlen w) (hff w rfl) hlc (fun b _ => rfl) (fun _ => rfl), Ext.refl G, R, hs, Below.refl _ _⟩
  · rename_i n0 nr
    generalize hnew : n0 :: nr = new at *
    have hnpos : 0 < new.length := by rw [← hnew]; simp
    clear hnew
    -- a new row
    have hfresh : ∀ (rows : List (List V)) (a : Option Addr) (cap : Nat) (olds : List Value), rs = .slice a rows.length cap → RepFlat G i.size rows olds → (∀ r ∈ rows, r.all oneCell = true) →
        (∀ w2 : World, w2.heap = w.heap → (Builtin.firstCells i.size rows.length (.slice a rows.length cap)).run P w2 = .ok olds.toArray w2) → cap < rows.length + new.length →
        rows.length + new.length ≤ lim → newOk i.size new = true →
        ∃ r w', (Builtin.append_ #[t, u] ty #[rs, rx]).run P w = .ok r w' ∧ ∃ cells cp, w' = (w.drew.alloc (.cells cells e (0, 0))) ∧ cells.size = cp * i.size ∧ rows.length + new.length ≤ cp ∧
          RepBlk G i.size cells (rows ++ new) ∧ r = .slice (some ⟨w.heap.size, 0, none⟩) (rows.length + new.length) cp := by
      intro rows a cap olds hrs hfl hone hfo hroom hlim hok
      subst hrs
      have hok' := newOk_inv hok
      have hrun := append_grow_raw (P := P) (w := w) (ty := ty) ht hu hi hz (hlen w) (hff w.drew rfl) (hfo w.drew rfl) hroom hby hlim
      refine ⟨_, _, hrun, _, grownCap w (rows.length + new.length) cap e, rfl, grown_size hfl.1 hnl hzs (grownCap_ge _ _ _ _), grownCap_ge _ _ _ _, ?_, rfl⟩
      refine (hfl.append hnf).blk ?_
      intro r hr
      rcases List.mem_append.1 hr with hr | hr
      · exact hone r hr
      · exact (hok' r hr).2
    split at hv
    · -- nil
      split at hv
      · rename_i hc
        injection hv with hv
        simp only [Prod.mk.injEq] at hv
        obtain ⟨rfl, rfl⟩ := hv
        obtain rfl := hs.sc_inv
        obtain ⟨r, w', hrun, cells, cp, rfl, hcs, hcp, hB, rfl⟩ := hfresh [] none 0 [] rfl ⟨by simp, by simp⟩ (by simp) (fun w2 _ => by simp [Builtin.firstCells]) (by simpa using hnpos) (by simpa using hc.1) hc.2
        simp only [List.length_nil, Nat.zero_add, List.nil_append] at hcp hB hrun
        refine ⟨_, _, _, hrun, Ext.newRow G ⟨0, i.size, w.heap.size, cp⟩, ?_, ?_, below_drew_alloc _ _ _ R.hb0⟩
        · exact R.drew.newRow e hpos hcp hcs hB
        · simp only [RepV]
          refine ⟨by simp [Tie.newRow, R.n], _, _, rfl, fun L hL => ?_⟩
          simp only [Tie.newRow, R.n, if_true, Option.some.injEq] at hL
          subst hL
          exact ⟨Nat.le_refl _, fun _ => ⟨hcp, by simp, fun _ => by simp⟩⟩
      · simp at hv
    · -- a literal
      rename_i ex zz rows
      split at hv
      · rename_i hc
        simp only [Bool.and_eq_true, decide_eq_true_eq] at hc
        injection hv with hv
        simp only [Prod.mk.injEq] at hv
        obtain ⟨rfl, rfl⟩ := hv
        have hel : elems i.size h (.slc ex zz rows) = some rows := by
          unfold elems
          simp only [hc.1.1.2, if_true]
        have hs' := hs
        simp only [RepV] at hs
        obtain ⟨a, cap, rfl, hl, hex, hgr, _⟩ := hs
        have hcap := hex hc.1.1.1
        subst hcap
        obtain ⟨olds, hfl, _, hfo⟩ := src_run R hs' (sz := i.size) (new := rows) (by simpa [srcRows] using hel)
        have hone : ∀ r ∈ rows, r.all oneCell = true := fun r hr => ground_one ((List.all_eq_true.1 hgr) r hr)
        obtain ⟨r, w', hrun, cells, cp, rfl, hcs, hcp, hB, rfl⟩ := hfresh rows a rows.length olds rfl hfl hone
          (fun w2 h2 => by have := hfo w2 rows.length h2 (Nat.le_refl _); rwa [← hfl.1, List.take_length] at this) (by omega) hc.1.2 hc.2
        refine ⟨_, _, _, hrun, Ext.newRow G ⟨0, i.size, w.heap.size, cp⟩, ?_, ?_, below_drew_alloc _ _ _ R.hb0⟩
        · exact R.drew.newRow e hpos (by simpa using hcp) hcs hB
        · simp only [RepV]
          refine ⟨by simp [Tie.newRow, R.n], _, _, rfl, fun L hL => ?_⟩
          simp only [Tie.newRow, R.n, if_true, Option.some.injEq] at hL
          subst hL
          exact ⟨Nat.le_refl _, fun _ => ⟨hcp, by simp, fun _ => by simp⟩⟩
      · simp at hv
    · rename_i b ep len
      split at hv
      · rename_i uu zz e' rows eq
        split at hv
        · rename_i hc
          obtain ⟨rfl, rfl, rfl, hle, hlim, hok, hms⟩ := hc
          injection hv with hv
          simp only [Prod.mk.injEq] at hv
          obtain ⟨rfl, rfl⟩ := hv
          have hs' := hs
          simp only [RepV] at hs
          obtain ⟨hb, a, cap, rfl, hLx⟩ := hs
          obtain ⟨_, L, cur, hL, hLe, hLs, hcp, hw, hsz, hB⟩ := R.row _ _ _ _ _ eq
          obtain ⟨_, hk2⟩ := hLx L hL
          obtain ⟨hlc, hoc, haa⟩ := hk2 hLe.symm
          simp only [Nat.zero_add, Nat.zero_mul] at hoc haa
          have hok' := newOk_inv hok
          have hel : elems i.size h (.hsl b e' 0 len) = some (rows.take len) := by
            unfold elems rowAt
            simp [eq, hle]
          have htl : (rows.take len).length = len := by simp; omega
          obtain ⟨olds, hfl, _, hfo⟩ := src_run R hs' (sz := i.size) (new := rows.take len) (by simpa [srcRows] using hel)
          have hone : ∀ r ∈ rows.take len, r.all oneCell = true := by
            intro r hr
            obtain ⟨k, hk⟩ := List.getElem?_of_mem (List.mem_of_mem_take hr)
            exact (hB k r hk).2.1
          by_cases hroom : len + new.length ≤ cap
          · -- in its place
            have haddr := haa (by omega)
            subst haddr
            have hcells : len * i.size + news.length ≤ cur.size := by
              rw [hnl, hsz, ← Nat.add_mul]
              exact Nat.mul_le_mul_right _ (by omega)
            have hst := run_storeCells_at (P := P) L.blk (len * i.size) uu news 0 cur w hw (by simpa using hcells) (hnf.one fun r hr => (hok' r hr).2)
            simp only [Nat.add_zero] at hst
            have hrun := append_room_raw (P := P) (w := w) (ty := ty) (a := some ⟨L.blk, 0, none⟩) (cap := cap) ht hu hi (hlen w) (hff w rfl) hroom
              (fun b hb => by injection hb with hb; subst hb; rw [add_none, Nat.zero_add]; exact hst) (fun h => by simp at h)
            refine ⟨_, _, G.setRow b { L with e := e' + 1 }, hrun, Ext.setRow G b L _ hL (by simp; omega) (by simp; omega), ?_, ?_, below_setRow _ _ _ _ (R.low b _ (by unfold Tie.real; rw [eq]; simp [hL])).1⟩
            · refine R.setRowAt (L' := { L with e := e' + 1 }) eq hL (by simp; omega) (by simp; omega) rfl hLs (by simp; omega) (.inl rfl) (by simp) (fun c hc _ => setRow_other w _ _ _ hc) (setRow_heap w _ _ _ _ _ hw) ?_ ?_
              · simp only [List.size_toArray, List.length_append, List.length_take, List.length_drop, Array.length_toList]
                rw [← hsz]
                omega
              · intro k cs hk
                by_cases hkl : k < len
                · rw [List.getElem?_append_left (by omega), List.getElem?_take, if_pos hkl] at hk
                  obtain ⟨h1, h2, h3⟩ := hB k cs hk
                  refine ⟨h1, h2, fun j c hj => ?_⟩
                  obtain ⟨v, h4, h5⟩ := h3 j c hj
                  refine ⟨v, ?_, h5⟩
                  have hjl := (List.getElem?_eq_some_iff.1 hj).1
                  have : (k + 1) * i.size ≤ len * i.size := Nat.mul_le_mul_right _ (by omega)
                  rw [Nat.add_mul] at this
                  rw [List.getElem?_toArray, getElem?_put _ _ _ _ (by simp; omega), if_neg (by omega), Array.getElem?_toList]
                  exact h4
                · rw [List.getElem?_append_right (by omega), htl] at hk
                  obtain ⟨h1, h3⟩ := hnf.2 _ cs hk
                  refine ⟨h1, (hok' cs (List.mem_of_getElem? hk)).2, fun j c hj => ?_⟩
                  obtain ⟨v, h4, h5⟩ := h3 j c hj
                  refine ⟨v, ?_, h5⟩
                  have hjl := (List.getElem?_eq_some_iff.1 hj).1
                  have hge : len * i.size ≤ k * i.size := Nat.mul_le_mul_right _ (by omega)
                  have hsub : (k - len) * i.size = k * i.size - len * i.size := Nat.sub_mul _ _ _
                  have hlt := (List.getElem?_eq_some_iff.1 h4).1
                  rw [List.getElem?_toArray, getElem?_put _ _ _ _ (by simp; omega), if_pos (by omega), show k * i.size + j - len * i.size = (k - len) * i.size + j by omega]
                  exact h4
            · simp only [RepV]
              refine ⟨hb, _, _, rfl, fun L' hL' => ?_⟩
              simp only [Tie.setRow, if_true, Option.some.injEq] at hL'
              subst hL'
              exact ⟨Nat.le_refl _, fun _ => ⟨hroom, by simpa using hoc, fun _ => by simp⟩⟩
          · -- at a new place
            obtain ⟨r, w', hrun, cells, cp, rfl, hcs, hcp', hB', rfl⟩ := hfresh (rows.take len) (some a) cap olds (by rw [htl]) hfl hone
              (fun w2 h2 => by have := hfo w2 len h2 (by omega); rw [htl]; rwa [← htl, ← hfl.1, List.take_length, htl] at this) (by omega) (by omega) hok
            rw [htl] at hcp'
            refine ⟨_, _, G.setRow b ⟨e' + 1, i.size, w.heap.size, cp⟩, hrun, Ext.setRow G b L _ hL (by simp; omega) (by simp; omega), ?_, ?_, below_drew_alloc _ _ _ R.hb0⟩
            · exact R.drew.setRowAt (L' := ⟨e' + 1, i.size, w.heap.size, cp⟩) eq hL (by simp; omega) (by simp; omega) rfl rfl (by simp; omega) (.inr rfl) (by simp) (fun c _ hc => heap_alloc_lt _ _ _ hc)
                (heap_alloc_eq w.drew _) hcs hB'
            · simp only [RepV, htl]
              refine ⟨hb, _, _, rfl, fun L' hL' => ?_⟩
              simp only [Tie.setRow, if_true, Option.some.injEq] at hL'
              subst hL'
              exact ⟨Nat.le_refl _, fun _ => ⟨hcp', by simp, fun _ => by simp⟩⟩
        · simp at hv
      · simp at hv
    · simp at hv

theorem RepFlat.take {sz : Nat} {rows : List (List V)} {rs : List Value} (h : RepFlat G sz rows rs) {k : Nat} (hk : k ≤ rows.length) : RepFlat G sz (rows.take k) (rs.take (k * sz)) := by
  have hm : k * sz ≤ rows.length * sz := Nat.mul_le_mul_right _ hk
  refine ⟨by rw [List.length_take, List.length_take, h.1, Nat.min_eq_left hk, Nat.min_eq_left hm], fun i cs hi => ?_⟩
  rw [List.getElem?_take] at hi
  split at hi
  · rename_i hik
    obtain ⟨h1, h2⟩ := h.2 i cs hi
    refine ⟨h1, fun j c hj => ?_⟩
    obtain ⟨v, h3, h4⟩ := h2 j c hj
    refine ⟨v, ?_, h4⟩
    have hjl : j < sz := by rw [← h1]; exact (List.getElem?_eq_some_iff.1 hj).1
    have : (i + 1) * sz ≤ k * sz := Nat.mul_le_mul_right _ hik
    rw [Nat.add_mul] at this
    rw [List.getElem?_take, if_pos (by omega)]
    exact h3
  · simp at hi

theorem slcLen_run {d : V} {rd : Value} {m : Nat} (hd : RepV G d rd) (hm : slcLen d = some m) : ∃ a cap, rd = .slice a m cap := by
  unfold slcLen at hm
  split at hm
  · injection hm with hm
    subst hm
    simp only [RepV] at hd
    obtain ⟨a, cap, rfl, _⟩ := hd
    exact ⟨a, cap, rfl⟩
  · injection hm with hm
    subst hm
    simp only [RepV] at hd
    obtain ⟨_, a, cap, rfl, _⟩ := hd
    exact ⟨_, cap, rfl⟩
  · injection hm with hm
    subst hm
    exact ⟨_, _, hd.sc_inv⟩
  · simp at hm

/-- 'copy' in the machine, from what the source's cells are. -/
theorem copy_raw {t u ty e : TypeId} {i : TypeInfo} {a : Option Addr} {m cap n : Nat} {rx : Value} {cells : List Value} {w' : World} (ht : P.underlying t = some (.slice e)) (hi : P.info? e = some i)
    (hl : (Builtin.lenOf rx).run P w = .ok n w) (hc : (Builtin.firstCells i.size (min n m) rx).run P w = .ok cells.toArray w)
    (hst : ∀ b, a = some b → (storeCells b cells 0).run P w = .ok () w') (hnone : a = none → w' = w) :
    (Builtin.copy_ #[t, u] ty #[.slice a m cap, rx]).run P w = .ok (goInt ((min n m : Nat) : Int)) w' := by
  have hmin : Nat.min n m = min n m := rfl
  cases a with
  | none =>
    have := hnone rfl
    subst this
    simp [Builtin.copy_, run_underlying ht, hl, sizeOf, typeInfo, hi, hmin, hc]
  | some b =>
    have := hst b rfl
    simp [Builtin.copy_, run_underlying ht, hl, sizeOf, typeInfo, hi, hmin, hc, this]

theorem copy_run {h h' : Heap} (R : Rel G h w) {t u ty e : TypeId} {sz base k : Nat} {d x : V} {rd rx : Value} {new : List (List V)} (ht : P.underlying t = some (.slice e)) (hg : growElem P e = some sz)
    (hd : RepV G d rd) (hx : RepV G x rx) (hn : srcRows sz h x = some new) (hs : copyV base h sz d new = some (k, h')) :
    ∃ w', (Builtin.copy_ #[t, u] ty #[rd, rx]).run P w = .ok (goInt k) w' ∧ Rel G h' w' ∧ Below G.b0 w w' := by
  obtain ⟨i, z, hi1, hz1, rfl, hpos, _, hzs⟩ := growElem_inv hg
  obtain ⟨news, hflat, hlen, hfirst⟩ := src_run (P := P) R hx hn
  unfold copyV at hs
  split at hs
  · simp at hs
  · rename_i m hm
    obtain ⟨a, cap, rfl⟩ := slcLen_run hd hm
    split at hs
    · rename_i h0
      simp only [Option.some.injEq, Prod.mk.injEq] at hs
      obtain ⟨rfl, rfl⟩ := hs
      refine ⟨w, ?_, R, Below.refl _ _⟩
      have := copy_raw (P := P) (w := w) (w' := w) (u := u) (ty := ty) (a := a) (m := m) (cap := cap) (cells := []) ht hi1 (hlen w) (by rw [h0, hfirst w 0 rfl (Nat.zero_le _)]; simp) (fun b _ => by simp [storeCells]) (fun _ => rfl)
      rwa [h0] at this
    · rename_i hne
      split at hs
      · rename_i b ep off len
        simp only [slcLen, Option.some.injEq] at hm
        subst hm
        split at hs
        · rename_i ty' z' e' rows eq
          split at hs
          · rename_i hc
            obtain ⟨rfl, rfl, hol, hok, _⟩ := hc
            simp only [Option.some.injEq, Prod.mk.injEq] at hs
            obtain ⟨rfl, rfl⟩ := hs
            obtain ⟨_, L, rs, hL, hLe, hLs, hcp, hw, hsz, hB⟩ := R.row _ _ _ _ _ eq
            simp only [RepV] at hd
            obtain ⟨hb, a', cap', hr, hLx⟩ := hd
            simp only [Value.slice.injEq] at hr
            obtain ⟨rfl, _, rfl⟩ := hr
            obtain ⟨h1, h2⟩ := hLx L hL
            obtain ⟨h3, h4, h5⟩ := h2 hLe.symm
            have ha := h5 (by omega)
            rw [hLs] at ha
            subst ha
            have hkl : min new.length len ≤ new.length := Nat.min_le_left _ _
            have hkl2 : min new.length len ≤ len := Nat.min_le_right _ _
            have hfl := hflat.take hkl
            have hone := hfl.one fun r hr => (newOk_inv hok r hr).2
            have hfc := hfirst w (min new.length len) rfl hkl
            generalize hk : min new.length len = k at hne hok hkl hkl2 hfl hone hfc ⊢
            have htl : (new.take k).length = k := by rw [List.length_take]; omega
            have hcl : (news.take (k * i.size)).length = k * i.size := by rw [hfl.1, htl]
            have hroom : (off + k) * i.size ≤ L.cp * i.size := Nat.mul_le_mul_right _ (by omega)
            rw [Nat.add_mul] at hroom
            have hstore := run_storeCells_at (P := P) L.blk (off * i.size) ty' (news.take (k * i.size)) 0 rs w hw (by rw [hcl, hsz]; omega) hone
            have hrun := copy_raw (P := P) (w := w) (u := u) (ty := ty) (a := some ⟨L.blk, off * i.size, none⟩) (m := len) (cap := cap) (cells := news.take (k * i.size)) ht hi1 (hlen w) (by rw [hk]; exact hfc) (fun b hb => by
              injection hb with hb
              subst hb
              exact hstore) (by simp)
            rw [hk] at hrun
            refine ⟨_, hrun, ?_, below_setRow _ _ _ _ (R.low b _ (by unfold Tie.real; rw [eq]; simp [hL])).1⟩
            have := R.setRowAt (rows' := rows.take off ++ new.take k ++ rows.drop (off + (new.take k).length)) (L' := L) (w' := w.setRow L.blk (rs.toList.take (off * i.size + 0) ++ news.take (k * i.size) ++ rs.toList.drop (off * i.size + 0 + (news.take (k * i.size)).length)).toArray)
              (rs' := (rs.toList.take (off * i.size + 0) ++ news.take (k * i.size) ++ rs.toList.drop (off * i.size + 0 + (news.take (k * i.size)).length)).toArray)
              eq hL (Nat.le_refl _) (fun _ => rfl) hLe hLs (by
                simp only [List.length_append, List.length_take, List.length_drop]
                omega) (.inl rfl) (by simp) (fun c hc _ => setRow_other w _ _ _ hc) (setRow_heap w _ _ _ _ _ hw)
              (by
                simp only [List.size_toArray, List.length_append, List.length_take, List.length_drop, Array.length_toList, hsz, hflat.1]
                have : k * i.size ≤ new.length * i.size := Nat.mul_le_mul_right _ hkl
                omega) ?_
            · rwa [Tie.setRow_same hL] at this
            · intro i' cs hi'
              rw [getElem?_put _ _ _ _ (by rw [htl]; omega), htl] at hi'
              have hget : ∀ p, (rs.toList.take (off * i.size + 0) ++ news.take (k * i.size) ++ rs.toList.drop (off * i.size + 0 + (news.take (k * i.size)).length)).toArray[p]? =
                  if off * i.size ≤ p ∧ p < off * i.size + k * i.size then (news.take (k * i.size))[p - off * i.size]? else rs[p]? := by
                intro p
                rw [List.getElem?_toArray, Nat.add_zero, getElem?_put _ _ _ _ (by rw [hcl]; simp only [Array.length_toList]; omega), hcl, Array.getElem?_toList (xs := rs)]
              split at hi'
              · rename_i hin
                obtain ⟨q1, q2⟩ := hfl.2 _ cs hi'
                refine ⟨q1, (newOk_inv hok cs (List.mem_of_getElem? hi')).2, fun j c hj => ?_⟩
                obtain ⟨v, q3, q4⟩ := q2 j c hj
                refine ⟨v, ?_, q4⟩
                have hjl : j < i.size := by rw [← q1]; exact (List.getElem?_eq_some_iff.1 hj).1
                have m1 : off * i.size ≤ i' * i.size := Nat.mul_le_mul_right _ hin.1
                have m2 : (i' + 1) * i.size ≤ (off + k) * i.size := Nat.mul_le_mul_right _ hin.2
                have m3 : (i' - off) * i.size = i' * i.size - off * i.size := Nat.sub_mul _ _ _
                rw [Nat.add_mul, Nat.add_mul] at m2
                rw [hget, if_pos (by omega), show i' * i.size + j - off * i.size = (i' - off) * i.size + j by omega]
                exact q3
              · rename_i hout
                obtain ⟨q1, q2, q3⟩ := hB _ cs hi'
                refine ⟨q1, q2, fun j c hj => ?_⟩
                obtain ⟨v, q4, q5⟩ := q3 j c hj
                refine ⟨v, ?_, q5⟩
                have hjl : j < i.size := by rw [← q1]; exact (List.getElem?_eq_some_iff.1 hj).1
                rw [hget, if_neg]
                · exact q4
                · rintro ⟨b1, b2⟩
                  rcases Nat.lt_or_ge i' off with hlt | hge
                  · have : (i' + 1) * i.size ≤ off * i.size := Nat.mul_le_mul_right _ hlt
                    rw [Nat.add_mul] at this
                    omega
                  · have : (off + k) * i.size ≤ i' * i.size := Nat.mul_le_mul_right _ (by omega)
                    rw [Nat.add_mul] at this
                    omega
          · simp at hs
        · simp at hs
      · simp at hs

end
end Go.Am
end
section
/- Am: what literals lay; new memory. -/
namespace Go.Am
section
variable {P : Program} {G : Tie} {w : World}

def All2 {α β : Type} (R : α → β → Prop) : List α → List β → Prop
  | [], bs => bs = []
  | a :: as, bs => ∃ b rest, bs = b :: rest ∧ R a b ∧ All2 R as rest

theorem fold_set : ∀ (vs : List Value) (k off : Nat) (cells : Array Value), off + k + vs.length ≤ cells.size →
    ((vs.zipIdx k).foldl (fun cs p => cs.setIfInBounds (off + p.2) p.1) cells).toList = cells.toList.take (off + k) ++ vs ++ cells.toList.drop (off + k + vs.length)
  | [], k, off, cells, _ => by simp
  | v :: vs, k, off, cells, h => by
    simp only [List.length_cons] at h
    simp only [List.zipIdx_cons, List.foldl_cons]
    rw [fold_set vs (k + 1) off _ (by simp; omega)]
    have e := list_seg_step cells.toList (off + k) v vs (by simp; omega)
    simp only [Array.toList_setIfInBounds, List.length_cons]
    rw [show off + (k + 1) = off + k + 1 by omega]
    exact e

theorem fold_setA (vs : Array Value) (off : Nat) (cells : Array Value) (h : off + vs.size ≤ cells.size) :
    (vs.zipIdx.foldl (fun cs (p : Value × Nat) => cs.setIfInBounds (off + p.2) p.1) cells).toList = cells.toList.take off ++ vs.toList ++ cells.toList.drop (off + vs.toList.length) := by
  rw [← Array.foldl_toList, Array.toList_zipIdx]
  have := fold_set vs.toList 0 off cells (by simpa using h)
  simpa using this

theorem fillParts_run (place : Nat → Option (Nat × Nat)) : ∀ {ps : List (Nat × Nat × V)} {rs : List (Nat × Value)} {zs cs : List V} {cells : Array Value}, RepL G zs cells.toList → fillParts zs ps = some cs →
    All2 (fun p r => place r.1 = some (p.1, p.2.1) ∧ RepV G p.2.2 r.2) ps rs → ∃ cells', Instr.fill place cells rs = some cells' ∧ RepL G cs cells'.toList
  | [], rs, zs, cs, cells, hz, h, hf => by
    simp only [All2] at hf
    subst hf
    simp only [fillParts, Option.some.injEq] at h
    subst h
    exact ⟨cells, rfl, hz⟩
  | (off, sz, v) :: ps, rs, zs, cs, cells, hz, h, hf => by
    simp only [All2] at hf
    obtain ⟨⟨i, rv⟩, rs, rfl, ⟨hp, hv⟩, hf⟩ := hf
    · simp only at hp hv
      unfold fillParts at h
      split at h
      · rename_i hc
        obtain ⟨hl, hone, hle⟩ := hc
        have hvu : v ≠ .undef := by
          rintro rfl
          simp [V.cells, oneCell] at hone
        have hcells := hv.cells hvu
        have hsz : rv.cells.size = sz := by rw [← Array.length_toList, hcells.length, hl]
        have hzl : cells.size = zs.length := by rw [← Array.length_toList, hz.length]
        have hput := hz.put (off := off) hcells
        unfold Instr.fill
        simp only [hp]
        rw [if_neg (by simp [hsz]; omega)]
        refine fillParts_run place ?_ h hf
        rw [fold_setA _ _ _ (by omega)]
        exact hput
      · simp at h

theorem fillRows_run {sz n : Nat} : ∀ {ps : List (Nat × V)} {rs : List (Nat × Value)} {zs cs : List (List V)} {cells : Array Value}, RepFlat G sz zs cells.toList → fillRows sz zs ps = some cs →
    All2 (fun p r => p.1 = r.1 ∧ RepV G p.2 r.2) ps rs → ∃ cells', Instr.fill (fun i => some (i * sz, sz)) cells rs = some cells' ∧ RepFlat G sz cs cells'.toList
  | [], rs, zs, cs, cells, hz, h, hf => by
    simp only [All2] at hf
    subst hf
    simp only [fillRows, Option.some.injEq] at h
    subst h
    exact ⟨cells, rfl, hz⟩
  | (i, v) :: ps, rs, zs, cs, cells, hz, h, hf => by
    simp only [All2] at hf
    obtain ⟨⟨i', rv⟩, rs, rfl, ⟨hii, hv⟩, hf⟩ := hf
    · simp only at hii hv
      subst hii
      unfold fillRows at h
      split at h
      · rename_i hc
        obtain ⟨hl, hone, hlt⟩ := hc
        have hvu : v ≠ .undef := by
          rintro rfl
          simp [V.cells, oneCell] at hone
        have hcells := hv.cells hvu
        have hsz : rv.cells.size = sz := by rw [← Array.length_toList, hcells.length, hl]
        have hzl : cells.size = zs.length * sz := by rw [← Array.length_toList, hz.1]
        have hroom : i * sz + sz ≤ cells.size := row_room hzl (Nat.le_refl _) hlt
        unfold Instr.fill
        simp only
        rw [if_neg (by simp [hsz]; omega)]
        refine fillRows_run (n := n) ?_ h hf
        rw [fold_setA _ _ _ (by omega)]
        have hrl : rv.cells.toList.length = sz := by simpa using hsz
        refine ⟨by rw [List.length_append, List.length_append, List.length_take, List.length_drop, Array.length_toList, hrl, List.length_set, Nat.min_eq_left (by omega)]; omega, fun k cs' hk => ?_⟩
        by_cases e : k = i
        · subst e
          rw [List.getElem?_set_self hlt] at hk
          injection hk with hk
          subst hk
          refine ⟨hl, fun j c hj => ?_⟩
          obtain ⟨u, h2, h3⟩ := hcells.get hj
          have hjl := (List.getElem?_eq_some_iff.1 hj).1
          refine ⟨u, ?_, h3⟩
          rw [getElem?_put _ _ _ _ (by simp [hrl]; omega), if_pos (by omega), show k * sz + j - k * sz = j by omega]
          exact h2
        · rw [List.getElem?_set_ne (by omega)] at hk
          obtain ⟨h2, h3⟩ := hz.2 k cs' hk
          refine ⟨h2, fun j c hj => ?_⟩
          obtain ⟨u, h4, h5⟩ := h3 j c hj
          have hjl := (List.getElem?_eq_some_iff.1 hj).1
          refine ⟨u, ?_, h5⟩
          rw [getElem?_put _ _ _ _ (by simp [hrl]; omega), if_neg]
          · exact h4
          · intro hh
            obtain ⟨hh1, hh2⟩ := hh
            have := row_index_inj (sz := sz) (i := k) (j := j) (i' := i) (j' := k * sz + j - i * sz) (by omega) (by omega) (by omega)
            exact e this.1
      · simp at h

theorem made_flat {sz n : Nat} {z : Array Value} {zs : List V} (hz : scsOf z.toList = some zs) (hs : z.size = sz) : RepFlat G sz (List.replicate n zs) (madeCells z (n * sz)).toList := by
  have hrep : RepL G zs z.toList := scsOf_rep hz
  refine ⟨by simp [size_madeCells], fun i cs hi => ?_⟩
  rw [List.getElem?_replicate] at hi
  split at hi
  · rename_i hlt
    injection hi with hi
    subst hi
    have hzl : zs.length = sz := by rw [← hrep.length]; simpa using hs
    refine ⟨hzl, fun j c hj => ?_⟩
    obtain ⟨u, h1, h2⟩ := hrep.get hj
    have hjl := (List.getElem?_eq_some_iff.1 hj).1
    refine ⟨u, ?_, h2⟩
    have hb : i * sz + j < n * sz := by
      have : (i + 1) * sz ≤ n * sz := Nat.mul_le_mul_right _ (by omega)
      rw [Nat.add_mul] at this
      omega
    have hm : (i * sz + j) % z.size = j := by
      rw [hs, Nat.mul_comm, Nat.mul_add_mod, Nat.mod_eq_of_lt (by omega)]
    rw [Array.getElem?_toList] at h1 ⊢
    unfold madeCells
    simp only [Array.getElem?_map, Array.getElem?_range, hb, if_true, Option.map_some, hm]
    rw [getElem!_pos z j (by omega)]
    have := (Array.getElem?_eq_some_iff.1 h1).2
    rw [this]
  · simp at hi

/-- New memory that is never written again. -/
def Tie.newFz (G : Tie) (k : Nat) (cells : Array Value) : Tie := { G with fz := fun b o => if b = k then cells[o]? else G.fz b o }

theorem Ext.newFz {G : Tie} {h : Heap} {w : World} (R : Rel G h w) (cells : Array Value) : Ext G (G.newFz w.heap.size cells) where
  fz b o v hv := by
    simp only [Tie.newFz]
    rw [if_neg]
    · exact hv
    · rintro rfl
      rw [R.fz_new] at hv
      simp at hv
  n := Nat.le_refl _
  bx _ _ := rfl
  rw _ _ L h := ⟨L, h, Nat.le_refl _, fun _ => rfl⟩
  b0 := rfl

theorem Rel.newFz {G : Tie} {h : Heap} {w : World} (R : Rel G h w) (cells : Array Value) (ty : TypeId) (fr : Nat × Nat) : Rel (G.newFz w.heap.size cells) h (w.alloc (.cells cells ty fr)) := by
  have x := Ext.newFz R cells
  have R' := R.world (w' := w.alloc (.cells cells ty fr)) (by simp) (fun k hk => heap_alloc_lt _ _ _ hk)
  have hreal : ∀ b, (G.newFz w.heap.size cells).real h b = G.real h b := fun _ => rfl
  refine ⟨R.n, ?_, ?_, ?_, ?_, ?_, ?_, R'.hb0⟩
  · intro b o v hv
    simp only [Tie.newFz] at hv
    split at hv
    · rename_i e
      subst e
      unfold World.cell?
      rw [heap_alloc_eq]
      simpa using hv
    · exact R'.fz b o v hv
  · intro b t cs e
    obtain ⟨h1, rs, h2, h3⟩ := R'.box b t cs e
    exact ⟨h1, rs, h2, h3.ext x⟩
  · intro b t sz e rows eq
    obtain ⟨h0, L, rs, h1, h2, h3, h4, h5, h6, h7⟩ := R'.row b t sz e rows eq
    exact ⟨h0, L, rs, h1, h2, h3, h4, h5, h6, h7.ext x⟩
  · intro b es e
    obtain ⟨l, clock, h1, h2⟩ := R'.mp b es e
    exact ⟨l, clock, h1, h2.ext x⟩
  · intro b k hk
    rw [hreal] at hk
    refine ⟨(R.low b k hk).1, fun o => ?_⟩
    simp only [Tie.newFz]
    have := R.lt hk
    rw [if_neg (by omega)]
    exact (R.low b k hk).2 o
  · intro b b' k h1 h2
    exact R.inj b b' k h1 h2

/-- A new slice of elements that are never written. -/
theorem Rel.newSlc {G : Tie} {h : Heap} {w : World} (R : Rel G h w) {ex : Cp} {sz : Nat} {rows : List (List V)} {cells : List Value} {rest : List Value} {cap : Nat} (hf : RepFlat G sz rows cells) (hg : (rows.all fun r => r.all ground) = true)
    (hc : rows.length ≤ cap) (hex : ex.isFull = true → cap = rows.length) (ty : TypeId) (fr : Nat × Nat) :
    Rel (G.newFz w.heap.size (cells ++ rest).toArray) h (w.alloc (.cells (cells ++ rest).toArray ty fr)) ∧ RepV (G.newFz w.heap.size (cells ++ rest).toArray) (.slc ex sz rows) (.slice (some ⟨w.heap.size, 0, none⟩) rows.length cap) := by
  refine ⟨R.newFz _ ty fr, ?_⟩
  have x := Ext.newFz R (cells ++ rest).toArray
  simp only [RepV]
  refine ⟨_, _, rfl, hc, hex, hg, w.heap.size, 0, fun _ => rfl, fun _ _ => R.hb0, RepRows.of_get fun i cs hi => ?_⟩
  obtain ⟨h1, h2⟩ := hf.2 i cs hi
  refine ⟨h1, RepF.of_get fun j c hj => ?_⟩
  obtain ⟨v, h3, h4⟩ := h2 j c hj
  refine ⟨v, ?_, h4.ext x⟩
  simp only [Tie.newFz, if_true]
  rw [List.getElem?_toArray, Nat.zero_add, List.getElem?_append_left (List.getElem?_eq_some_iff.1 h3).1]
  exact h3

end
end Go.Am
end
section
/- Am: pointers seen as others; a string over a row. -/
namespace Go.Am
open Go.RowKit (Below)
section
variable {P : Program} {G : Tie} {h h' : Heap} {w : World}

theorem boxAt_inv {b : Nat} {t : TypeId} {cs : List V} (hb : boxAt h b = some (t, cs)) : h[b]? = some (.box t cs) := by
  unfold boxAt at hb
  split at hb
  · rename_i e
    simp only [Option.some.injEq, Prod.mk.injEq] at hb
    obtain ⟨rfl, rfl⟩ := hb
    exact e
  · simp at hb

theorem shape_of_heap {b : Nat} {rs : Array Value} {t : TypeId} {fr : Nat × Nat} (hw : w.heap[b]? = some (.cells rs t fr)) : w.shape? b = some (t, rs.size) := by
  simp [World.shape?, hw]

theorem uncast_run {src dst t : TypeId} {s : Nat} {x v : V} {r : Value} (R : Rel G h w) (hs : P.underlying src = some (.pointer t)) (hd : P.underlying dst = some .unsafePointer) (hz : sizeO P t = some s) (h0 : s ≠ 0)
    (hx : RepV G x r) (hv : uncastV h x = some v) : (convert src dst r).run P w = .ok r w ∧ RepV G v r := by
  obtain ⟨i, hi, rfl⟩ : ∃ i, P.info? t = some i ∧ i.size = s := by simpa [sizeO] using hz
  unfold uncastV at hv
  split at hv
  · injection hv with hv
    subst hv
    have := hx.sc_inv
    subst this
    refine ⟨?_, hx⟩
    simp [convert, run_underlying hs, run_underlying hd, Conv.unsafePointer]
  · simp only [Option.bind_eq_some_iff] at hv
    obtain ⟨⟨ty, cs⟩, hb, hv⟩ := hv
    split at hv
    · rename_i hlt
      injection hv with hv
      subst hv
      have hx' := hx
      simp only [RepV] at hx'
      obtain ⟨_, rfl⟩ := hx'
      obtain ⟨_, rs, hw, hl⟩ := R.box _ _ _ (boxAt_inv hb)
      have hlen := hl.length
      simp only [Array.length_toList] at hlen
      exact ⟨Lib.run_to_unsafe w _ hs hd hi h0 (shape_of_heap hw) (by simp only at hlt ⊢; omega), hx⟩
    · simp at hv
  · simp at hv

theorem cast_run {src dst u : TypeId} {s : Nat} {x v : V} {r : Value} (R : Rel G h w) (hs : P.underlying src = some .unsafePointer) (hd : P.underlying dst = some (.pointer u)) (hz : sizeO P u = some s)
    (hlies : liesAt P P.depth u (s / P.cellsOf u) 0 u 1 = true) (hx : RepV G x r) (hv : castV h u s x = some v) : (convert src dst r).run P w = .ok r w ∧ RepV G v r := by
  obtain ⟨i, hi, rfl⟩ : ∃ i, P.info? u = some i ∧ i.size = s := by simpa [sizeO] using hz
  unfold castV at hv
  split at hv
  · injection hv with hv
    subst hv
    have := hx.sc_inv
    subst this
    refine ⟨?_, hx⟩
    simp [convert, run_underlying hs, run_underlying hd, Conv.unsafePointer]
  · simp only [Option.bind_eq_some_iff] at hv
    obtain ⟨⟨ty, cs⟩, hb, hv⟩ := hv
    split at hv
    · rename_i hc
      simp only at hc
      obtain ⟨rfl, hlen⟩ := hc
      injection hv with hv
      subst hv
      have hx' := hx
      simp only [RepV] at hx'
      obtain ⟨_, rfl⟩ := hx'
      obtain ⟨_, rs, hw, hl⟩ := R.box _ _ _ (boxAt_inv hb)
      have hl2 := hl.length
      simp only [Array.length_toList] at hl2
      refine ⟨Lib.run_from_unsafe w _ hs hd hi (shape_of_heap hw) ?_, hx⟩
      simp only
      rw [hl2, hlen]
      exact hlies
    · simp at hv
  · simp at hv

theorem samePtr_run {op : BinOp} {t e : TypeId} {s : Nat} {neg : Bool} {x y : V} {b : Bool} {rx ry : Value} (R : Rel G h w) (hop : op = if neg then .neq else .eql) (ht : P.underlying t = some (.pointer e)) (hz : sizeO P e = some s) (h0 : s ≠ 0)
    (hx : RepV G x rx) (hy : RepV G y ry) (hv : samePtr h x y = some b) (ox oy : Operand) : (do eqGuard op t ox oy rx ry; binOp op t rx ry : Sem Value).run P w = .ok (.bool (if neg then !b else b)) w := by
  obtain ⟨i, hi, rfl⟩ : ∃ i, P.info? e = some i ∧ i.size = s := by simpa [sizeO] using hz
  have key : ∀ {p q : Option Addr} (c : Bool), rx = .pointer p → ry = .pointer q → (∀ d, (Op.equalIn (d + 1) t (.pointer p) (.pointer q)).run P w = .ok c w) → b = c → (do eqGuard op t ox oy rx ry; binOp op t rx ry : Sem Value).run P w = .ok (.bool (if neg then !b else b)) w := by
    rintro p q c rfl rfl h3 rfl
    have h4 : (Op.equal t (.pointer p) (.pointer q)).run P w = .ok b w := by
      simp only [Op.equal, Op.maxDepth]
      exact h3 9999
    have h5 : (eqGuard op t ox oy (.pointer p) (.pointer q)).run P w = .ok () w := by
      cases neg <;> simp only [Bool.false_eq_true, if_false, if_true] at hop <;> subst hop <;> simp [eqGuard]
    simp only [Sem.run_bind, h5, Result.andThen_ok]
    cases neg
    · simp only [Bool.false_eq_true, if_false] at hop ⊢
      subst hop
      simp only [binOp, Sem.run_bind, h4, Result.andThen_ok, Sem.run_pure]
    · simp only [if_true] at hop ⊢
      subst hop
      simp only [binOp, Sem.run_bind, h4, Result.andThen_ok, Sem.run_pure]
  unfold samePtr at hv
  split at hv
  · injection hv with hv
    exact key true hx.sc_inv hy.sc_inv (fun d => by simp [Op.equalIn, run_underlying ht]) hv.symm
  · injection hv with hv
    simp only [RepV] at hy
    obtain ⟨_, rfl⟩ := hy
    exact key false hx.sc_inv rfl (fun d => by simp [Op.equalIn, run_underlying ht]) hv.symm
  · injection hv with hv
    simp only [RepV] at hx
    obtain ⟨_, rfl⟩ := hx
    exact key false rfl hy.sc_inv (fun d => by simp [Op.equalIn, run_underlying ht]) hv.symm
  · rename_i b1 o1 b2 o2
    simp only [Option.bind_eq_some_iff, Option.map_eq_some_iff] at hv
    obtain ⟨⟨t1, cs1⟩, hb1, ⟨t2, cs2⟩, hb2, hv⟩ := hv
    simp only [RepV] at hx hy
    obtain ⟨_, rfl⟩ := hx
    obtain ⟨_, rfl⟩ := hy
    have e1 := boxAt_inv hb1
    have e2 := boxAt_inv hb2
    obtain ⟨_, rs1, hw1, _⟩ := R.box _ _ _ e1
    obtain ⟨_, rs2, hw2, _⟩ := R.box _ _ _ e2
    have hsame : (sameAddr ⟨G.bx b1, o1, none⟩ ⟨G.bx b2, o2, none⟩).run P w = .ok (b1 == b2 && o1 == o2) w := by
      by_cases he : (⟨G.bx b1, o1, none⟩ : Addr) = ⟨G.bx b2, o2, none⟩
      · rw [he, run_sameAddr_same]
        injection he with he1 he2
        have : b1 = b2 := R.inj b1 b2 (G.bx b1) (by unfold Tie.real; rw [e1]) (by unfold Tie.real; rw [e2, he1])
        simp [this, he2]
      · rw [run_sameAddr_other w he hw1 hw2]
        have : (b1 == b2 && o1 == o2) = false := by
          by_cases hbb : b1 = b2
          · subst hbb
            have : o1 ≠ o2 := fun e => he (by rw [e])
            simp [this]
          · simp [hbb]
        rw [this]
    refine key (b1 == b2 && o1 == o2) rfl rfl (fun d => ?_) hv.symm
    simp [Op.equalIn, run_underlying ht, sizeOf, typeInfo, hi, h0, hsame]
  · simp at hv

theorem sliceData_run {ts : Array TypeId} {ty : TypeId} {x v : V} {r : Value} (R : Rel G h w) (hx : RepV G x r) (hv : sliceDataV h x = some v) : ∃ rv, (Builtin.unsafeSliceData_ ts ty #[r]).run P w = .ok rv w ∧ RepV G v rv := by
  unfold sliceDataV at hv
  split at hv
  · injection hv with hv
    subst hv
    have := hx.sc_inv
    subst this
    exact ⟨.pointer none, Lib.run_unsafeSliceData_nil w ts ty 0 0, by simp [RepV, Value.oneCell']⟩
  · rename_i b e off len
    split at hv
    · rename_i z hr
      split at hv
      · rename_i hpos
        injection hv with hv
        subst hv
        obtain ⟨sz, rows⟩ := z
        obtain ⟨t, eq, _, L, rs, hL, hLe, hLs, hcp, hw, hsz, hB⟩ := R.rowAt hr
        simp only [RepV] at hx
        obtain ⟨hb, a, cap, rfl, hLx⟩ := hx
        obtain ⟨h1, h2⟩ := hLx L hL
        obtain ⟨h3, h4, h5⟩ := h2 hLe.symm
        refine ⟨.pointer (some a), Lib.run_unsafeSliceData_row w ts ty a len cap (by omega), ?_⟩
        simp only [RepV]
        refine ⟨hb, a, rfl, fun L' hL' => ?_⟩
        rw [hL] at hL'
        injection hL' with hL'
        subst hL'
        exact ⟨h1, fun _ => by rw [h5 (by omega), Nat.add_zero]⟩
      · simp at hv
    · simp at hv
  · simp at hv

theorem bytesIn_map : ∀ {rows : List (List V)} {l : List UInt8}, bytesIn rows = some l → ∃ ns : List Int, rows = ns.map (fun n => [V.sc (.int .u8 n)]) ∧ l = ns.map fun n => UInt8.ofNat n.toNat
  | [], l, h => by simp [bytesIn] at h; subst h; exact ⟨[], rfl, rfl⟩
  | r :: rows, l, h => by
    unfold bytesIn at h
    split at h
    · rename_i e; simp at e
    · rename_i n r' e
      simp only [List.cons.injEq] at e
      obtain ⟨rfl, rfl⟩ := e
      simp only [Option.map_eq_some_iff] at h
      obtain ⟨l', h1, rfl⟩ := h
      obtain ⟨ns, rfl, rfl⟩ := bytesIn_map h1
      exact ⟨n :: ns, rfl, rfl⟩
    · simp at h

theorem run_loadBytes_ints : ∀ (ns : List Int) (a : Addr) (acc : ByteArray), (∀ j n, ns[j]? = some n → w.cell? (a.add j) = some (.int .u8 n)) →
    (loadBytes a acc ns.length).run P w = .ok ⟨acc.data ++ (ns.map fun n => UInt8.ofNat n.toNat).toArray⟩ w
  | [], a, acc, _ => by simp [loadBytes]
  | x :: l, a, acc, h => by
    have h0 : w.cell? a = some (.int .u8 x) := by
      have := h 0 x rfl
      simpa [Addr.add] using this
    have ih := run_loadBytes_ints l (a.add 1) (acc.push x.toNat.toUInt8) (fun j y hy => by
      have := h (j + 1) y (by simpa using hy)
      have e : (a.add 1).add j = a.add (j + 1) := by
        unfold Addr.add
        by_cases hj : j = 0
        · subst hj; simp
        · simp [hj]; omega
      rw [e]; exact this)
    simp only [List.length_cons, loadBytes, Sem.run_bind, run_load, h0, Result.andThen]
    rw [ih]
    congr 1
    apply ByteArray.ext
    simp [ByteArray.push]

theorem run_unsafeString_ints (pt it ty e : TypeId) (hp : P.underlying pt = some (.pointer e)) (hc : P.cellsOf e = 1) (g cells : Nat) (hsh : w.shape? g = some (e, cells)) (ns : List Int) (h0 : ns.length ≠ 0) (hn : ns.length ≤ cells) (h63 : ns.length ≤ 9223372036854775807)
    (hcell : ∀ j x, ns[j]? = some x → w.cell? ((⟨g, 0, none⟩ : Addr).add j) = some (.int .u8 x)) :
    (Builtin.unsafeString_ #[pt, it] ty #[.pointer (some ⟨g, 0, none⟩), .int .i64 ns.length]).run P w = .ok (.string ⟨(ns.map fun n => UInt8.ofNat n.toNat).toArray⟩) (w.freeze ⟨g, 0, none⟩ ns.length) := by
  have hlb := run_loadBytes_ints (P := P) (w := w) ns ⟨g, 0, none⟩ .empty hcell
  have hlies := Lib.liesAt_bytes (P := P) hc (cells / P.cellsOf e) ns.length (by rw [hc]; simpa using hn)
  have h63' : ¬ (9223372036854775807 : Int) < (ns.length : Int) := by omega
  have hdef : Builtin.unsafeString_ #[pt, it] ty #[.pointer (some ⟨g, 0, none⟩), .int .i64 ns.length] =
      (do
        let n ← asInt (.int .i64 ns.length)
        if n < 0 then runtimePanic (.error "unsafe.String: len out of range")
        if n > IntKind.i64.max then unsupported (.unsafePointer "String: a length above the largest int")
        if n = 0 then pure (.string .empty)
        else if ← variablesAt ⟨g, 0, none⟩ (← elemOf pt) n.toNat then do
          let s ← loadBytes ⟨g, 0, none⟩ .empty n.toNat
          freeze ⟨g, 0, none⟩ n.toNat
          pure (.string s)
        else unsupported (.unsafePointer "String: not so many bytes at ptr")) := rfl
  rw [hdef]
  have hmax : IntKind.i64.max = 9223372036854775807 := rfl
  have hneg : ¬ (ns.length : Int) < 0 := by omega
  have hz : ¬ ns = [] := by intro e; rw [e] at h0; exact h0 rfl
  simp [asInt, asIntOf, hmax, h63', hneg, hz, variablesAt, hsh, elemOf, run_underlying hp, hlies, hlb]

theorem strData_run {pt it ty u : TypeId} {k : Nat} {x v : V} {r : Value} (R : Rel G h w) (hp : P.underlying pt = some (.pointer u)) (hc : P.cellsOf u = 1) (hx : RepV G x r) (hv : strDataV h u k x = some (v, h')) :
    ∃ rv w', (Builtin.unsafeString_ #[pt, it] ty #[r, .int .i64 k]).run P w = .ok rv w' ∧ Rel G h' w' ∧ RepV G v rv ∧ Below G.b0 w w' := by
  unfold strDataV at hv
  split at hv
  · split at hv
    · rename_i h0
      subst h0
      simp only [Option.some.injEq, Prod.mk.injEq] at hv
      obtain ⟨rfl, rfl⟩ := hv
      have := hx.sc_inv
      subst this
      exact ⟨_, w, Lib.run_unsafeString_none w pt it ty none, R, by simp [RepV, Value.oneCell'], Below.refl _ _⟩
    · simp at hv
  · rename_i b e
    split at hv
    · rename_i t sz e' rows eq
      split at hv
      · rename_i hcond
        obtain ⟨rfl, rfl, rfl, hk0, hkl, hlim⟩ := hcond
        simp only [Option.map_eq_some_iff, Prod.mk.injEq] at hv
        obtain ⟨l, hl, rfl, rfl⟩ := hv
        obtain ⟨_, L, rs, hL, hLe, hLs, hcp, hw, hsz, hB⟩ := R.row _ _ _ _ _ eq
        simp only [RepV] at hx
        obtain ⟨hb, a, rfl, hLx⟩ := hx
        have ha := (hLx L hL).2 hLe.symm
        simp only [Nat.zero_mul, Nat.zero_add] at ha
        subst ha
        obtain ⟨ns, hns, rfl⟩ := bytesIn_map hl
        have hlen : ns.length = k := by
          have := congrArg List.length hns
          simp at this
          omega
        have hcell : ∀ (j : Nat) (x : Int), ns[j]? = some x → rs[j]? = some (.int .u8 x) := by
          intro j x hj
          have hjl := (List.getElem?_eq_some_iff.1 hj).1
          have hrj : rows[j]? = some [V.sc (.int .u8 x)] := by
            have h1 : (rows.take k)[j]? = some [V.sc (.int .u8 x)] := by rw [hns]; simp [hj]
            rw [List.getElem?_take, if_pos (by omega)] at h1
            exact h1
          obtain ⟨_, _, h3⟩ := hB j _ hrj
          obtain ⟨v, h4, h5⟩ := h3 0 _ rfl
          have := h5.sc_inv
          subst this
          simpa using h4
        have hrun := run_unsafeString_ints (P := P) (w := w) pt it ty t hp hc L.blk rs.size (shape_of_heap hw) ns (by omega) (by rw [hsz, hlen]; omega) (by rw [hlen]; unfold lim at hlim; omega) (fun j x hj => by
          rw [add_none, Nat.zero_add]
          unfold World.cell?
          simp [hw, hcell j x hj])
        rw [hlen] at hrun
        have hreal : G.real h b = some L.blk := by unfold Tie.real; rw [eq]; simp [hL]
        have hlt : b < h.length := Rel.real_lt hreal
        have hfz : (w.freeze ⟨L.blk, 0, none⟩ k).heap.size = w.heap.size ∧ ∀ c, c ≠ L.blk → (w.freeze ⟨L.blk, 0, none⟩ k).heap[c]? = w.heap[c]? := by
          unfold World.freeze
          rw [if_neg (by omega)]
          refine ⟨by simp, fun c hc => ?_⟩
          simp only [Array.getElem?_modify]
          rw [if_neg (by simpa using Ne.symm hc)]
        refine ⟨_, _, hrun, ?_, by simp [RepV, Value.oneCell'], Lib.below_freeze (Below.refl _ _) (R.low b _ hreal).1 k⟩
        refine R.put (Ext.refl G) b L.blk (fun c hc => by rw [List.getElem?_set_ne (by omega)]) (by simp [R.n]) rfl (fun _ _ => rfl) (fun _ _ => rfl) ?_ (R.low b _ hreal).1 (R.low b _ hreal).2 (fun c hc e => hc (R.inj c b _ e hreal)) (by rw [hfz.1]; exact Nat.le_refl _) (fun c hc _ => hfz.2 c hc) ?_ ?_ ?_
        · intro k' hk'
          unfold Tie.real at hk'
          rw [List.getElem?_set_self hlt] at hk'
          simp at hk'
        · intro t' cs' e
          rw [List.getElem?_set_self hlt] at e
          simp at e
        · intro t' sz' e1 rows' e
          rw [List.getElem?_set_self hlt] at e
          simp at e
        · intro es e
          rw [List.getElem?_set_self hlt] at e
          simp at e
      · simp at hv
    · simp at hv
  · simp at hv

theorem cap_run {t e ty : TypeId} {x : V} {r : Value} {n : Nat} (ht : P.underlying t = some (.slice e)) (hx : RepV G x r) (hv : capV x = some n) : (Builtin.cap_ #[t] ty #[r]).run P w = .ok (.int .i64 n) w := by
  have key : ∀ (b : Option Addr) (l : Nat), r = .slice b l n → (Builtin.cap_ #[t] ty #[r]).run P w = .ok (.int .i64 n) w := by
    rintro b l rfl
    simp [Builtin.cap_, run_underlying ht, goInt]
  unfold capV at hv
  split at hv
  · injection hv with hv
    subst hv
    exact key none 0 hx.sc_inv
  · split at hv
    · rename_i hf
      injection hv with hv
      subst hv
      simp only [RepV] at hx
      obtain ⟨a, cap, rfl, _, hex, _⟩ := hx
      exact key a _ (by rw [hex hf])
    · simp at hv
  · simp at hv

end
end Go.Am
end
section
/- Am: one operation, whole. -/
namespace Go.Am
open Go.RowKit (Below)
section
variable {P : Program} {gl : Nat → Option (List V)} {G : Tie} {en : Env} {h h' : Heap} {a : Act} {w : World} {o : Oper} {base : Nat} {v : V}

/-- The machine's operation does what the abstract one does. -/
def OpOk (P : Program) (o : Oper) (a : Act) (G : Tie) (h' : Heap) (w : World) (v : V) : Prop :=
  ∃ r w' G', ((execOp a.eval o).run P w = .ok (.value r) w' ∨ ((execOp a.eval o).run P w = .ok .skip w' ∧ r = undef)) ∧ Ext G G' ∧ Rel G' h' w' ∧ RepV G' v r ∧ Below G.b0 w w'

theorem OpOk.quiet {s : Sem Value} {r : Value} (R : Rel G h w) (he : execOp a.eval o = (do pure (.value (← s)))) (hr : s.run P w = .ok r w) (hv : RepV G v r) : OpOk P o a G h w v := by
  refine ⟨r, w, G, .inl ?_, Ext.refl G, R, hv, Below.refl _ _⟩
  rw [he]
  simp only [Sem.run_bind, hr, Result.andThen_ok]
  rfl

theorem OpOk.value {s : Sem Value} {r : Value} {w' : World} {G' : Tie} (he : execOp a.eval o = (do pure (.value (← s)))) (hr : s.run P w = .ok r w') (x : Ext G G') (R : Rel G' h' w') (hv : RepV G' v r) (hb : Below G.b0 w w') : OpOk P o a G h' w v := by
  refine ⟨r, w', G', .inl ?_, x, R, hv, hb⟩
  rw [he]
  simp only [Sem.run_bind, hr, Result.andThen_ok]
  rfl

theorem zeroO_run {t : TypeId} {zs : List V} (h : zeroO P t = some zs) (w : World) : ∃ z, (zeroValue t).run P w = .ok z w ∧ scsOf z.cells.toList = some zs := by
  simp only [zeroO, Option.bind_eq_some_iff] at h
  obtain ⟨z, ⟨i, hi, hz⟩, hs⟩ := h
  exact ⟨z, by simp [zeroValue, typeInfo, hi, hz], hs⟩

theorem ok_move {x : Operand} (hop : o.op = .move x ∨ o.op = .assign x) (hgl : GlobOk G gl) (he : RepEnv G en a.tmps) (R : Rel G h w) {y : Opd} (hc : opd gl x = some y) : OpOk P o a G h w (y.get en) := by
  refine ⟨a.eval x, w, G, .inl ?_, Ext.refl G, R, opd_rep hgl he hc, Below.refl _ _⟩
  rcases hop with hop | hop <;> simp only [execOp, hop] <;> rfl

theorem ok_pick {c x y : Operand} {c' x' y' : Opd} {t : Bool} (hop : o.op = .pick c x y) (hgl : GlobOk G gl) (he : RepEnv G en a.tmps) (R : Rel G h w) (h1 : opd gl c = some c') (h2 : opd gl x = some x') (h3 : opd gl y = some y')
    (ht : c'.get en = .sc (.bool t)) : OpOk P o a G h w (if t then x'.get en else y'.get en) := by
  have hcv := opd_rep hgl he h1
  rw [ht] at hcv
  have hcv := hcv.sc_inv
  refine ⟨if t then a.eval x else a.eval y, w, G, .inl ?_, Ext.refl G, R, ?_, Below.refl _ _⟩
  · simp [execOp, hop, hcv, asBool]
  · cases t
    · exact opd_rep hgl he h3
    · exact opd_rep hgl he h2

theorem ok_alloc {t : TypeId} {zs : List V} (hop : o.op = .alloc t) (R : Rel G h w) (hz : zeroO P t = some zs) : OpOk P o a G (h ++ [.box t zs]) w (.ptr h.length 0) := by
  obtain ⟨z, hr, hs⟩ := zeroO_run hz w
  refine OpOk.value (s := Instr.alloc t true (.tuple #[])) (r := .pointer (some ⟨w.heap.size, 0, none⟩)) (w' := w.alloc (.cells z.cells t (0, 0))) (by simp only [execOp, hop]) ?_ (Ext.newBox G w.heap.size) (R.newBox t (scsOf_one hs).1 (scsOf_rep hs)) ?_ (below_alloc _ _ _ R.hb0)
  · simp [Instr.alloc, hr, newVar, newRow]
  · simp [RepV, Tie.newBox, R.n]

theorem ok_box {t : TypeId} {x : Operand} {x' : Opd} (hop : o.op = .box t x) (hgl : GlobOk G gl) (he : RepEnv G en a.tmps) (R : Rel G h w) (h1 : opd gl x = some x') (hone : (x'.get en).cells.all oneCell = true) :
    OpOk P o a G (h ++ [.box t (x'.get en).cells]) w (.ptr h.length 0) := by
  have hx := opd_rep hgl he h1
  have hu : x'.get en ≠ .undef := by
    intro e
    rw [e] at hone
    simp [V.cells, oneCell] at hone
  refine OpOk.value (s := Instr.box t (a.eval x)) (r := .pointer (some ⟨w.heap.size, 0, none⟩)) (w' := w.alloc (.cells (a.eval x).cells t (0, 0))) (by simp only [execOp, hop]) ?_ (Ext.newBox G w.heap.size) (R.newBox t hone (hx.cells hu)) ?_ (below_alloc _ _ _ R.hb0)
  · simp [Instr.box, newVar, newRow]
  · simp [RepV, Tie.newBox, R.n]

theorem arrElem_inv {t : TypeId} {sz : Nat} (h : arrElem P t = some sz) : ∃ n e, P.underlying t = some (.array n e) ∧ growElem P e = some sz := by
  unfold arrElem at h
  split at h
  · rename_i n e eq
    split at h
    · simp at h
    · exact ⟨n, e, eq, h⟩
  · simp at h

theorem ok_allocA {t : TypeId} {sz : Nat} {zs : List V} (hop : o.op = .alloc t) (R : Rel G h w) (hz : zeroO P t = some zs) (hs : step base en h (.allocA t sz zs) = some (v, h')) : OpOk P o a G h' w v := by
  simp only [step] at hs
  split at hs
  · rename_i hc
    obtain ⟨hpos, hmod, _⟩ := hc
    simp only [Option.some.injEq, Prod.mk.injEq] at hs
    obtain ⟨rfl, rfl⟩ := hs
    obtain ⟨z, hr, hs⟩ := zeroO_run hz w
    have hrep := scsOf_rep (G := G) hs
    have hlen := hrep.length
    simp only [Array.length_toList] at hlen
    have hdiv : zs.length / sz * sz = zs.length := Nat.div_mul_cancel (Nat.dvd_of_mod_eq_zero hmod)
    refine OpOk.value (s := Instr.alloc t true (.tuple #[])) (r := .pointer (some ⟨w.heap.size, 0, none⟩)) (w' := w.alloc (.cells z.cells t (0, 0))) (by simp only [execOp, hop]) ?_ (Ext.newRow G ⟨0, sz, w.heap.size, zs.length / sz⟩)
      (R.newRow t hpos (by rw [chunk_length]; exact Nat.le_refl _) (by rw [hdiv]; exact hlen) (chunk_blk hpos (scsOf_one hs).1 fun p c hc => by
        obtain ⟨r, h1, h2⟩ := hrep.get hc
        exact ⟨r, by rw [← Array.getElem?_toList]; exact h1, h2⟩)) ?_ (below_alloc _ _ _ R.hb0)
    · simp [Instr.alloc, hr, newVar, newRow]
    · simp [RepV, Tie.newRow, R.n]
  · simp at hs

theorem ok_boxA {t : TypeId} {sz : Nat} {x : Operand} {x' : Opd} (hop : o.op = .box t x) (hgl : GlobOk G gl) (he : RepEnv G en a.tmps) (R : Rel G h w) (h1 : opd gl x = some x') (hs : step base en h (.boxA t sz x') = some (v, h')) :
    OpOk P o a G h' w v := by
  simp only [step] at hs
  split at hs
  · rename_i hc
    obtain ⟨hpos, hmod, _, hone⟩ := hc
    simp only [Option.some.injEq, Prod.mk.injEq] at hs
    obtain ⟨rfl, rfl⟩ := hs
    have hx := opd_rep hgl he h1
    have hu : x'.get en ≠ .undef := by
      intro e
      rw [e] at hone
      simp [V.cells, oneCell] at hone
    have hrep := hx.cells hu
    have hlen := hrep.length
    simp only [Array.length_toList] at hlen
    have hdiv : (x'.get en).cells.length / sz * sz = (x'.get en).cells.length := Nat.div_mul_cancel (Nat.dvd_of_mod_eq_zero hmod)
    refine OpOk.value (s := Instr.box t (a.eval x)) (r := .pointer (some ⟨w.heap.size, 0, none⟩)) (w' := w.alloc (.cells (a.eval x).cells t (0, 0))) (by simp only [execOp, hop]) ?_ (Ext.newRow G ⟨0, sz, w.heap.size, (x'.get en).cells.length / sz⟩)
      (R.newRow t hpos (by rw [chunk_length]; exact Nat.le_refl _) (by rw [hdiv]; exact hlen) (chunk_blk hpos hone fun p c hc => by
        obtain ⟨r, h1, h2⟩ := hrep.get hc
        exact ⟨r, by rw [← Array.getElem?_toList]; exact h1, h2⟩)) ?_ (below_alloc _ _ _ R.hb0)
    · simp [Instr.box, newVar, newRow]
    · simp [RepV, Tie.newRow, R.n]
  · simp at hs

theorem ok_boxF {t : TypeId} {x : Operand} {x' : Opd} (hop : o.op = .box t x) (hgl : GlobOk G gl) (he : RepEnv G en a.tmps) (R : Rel G h w) (h1 : opd gl x = some x') (hs : step base en h (.boxF t x') = some (v, h')) :
    OpOk P o a G h' w v := by
  simp only [step] at hs
  split at hs
  · rename_i hg
    simp only [Option.some.injEq, Prod.mk.injEq] at hs
    obtain ⟨rfl, rfl⟩ := hs
    have hx := opd_rep hgl he h1
    have hu : x'.get en ≠ .undef := by
      intro e
      rw [e] at hg
      simp [V.cells, ground] at hg
    have hrep := hx.cells hu
    have X := Ext.newFz R (a.eval x).cells
    refine OpOk.value (s := Instr.box t (a.eval x)) (r := .pointer (some ⟨w.heap.size, 0, none⟩)) (w' := w.alloc (.cells (a.eval x).cells t (0, 0))) (by simp only [execOp, hop]) ?_ X
      (R.newFz (a.eval x).cells t (0, 0)) ?_ (below_alloc _ _ _ R.hb0)
    · simp [Instr.box, newVar, newRow]
    · simp only [RepV]
      refine ⟨w.heap.size, 0, rfl, hg, RepF.of_get fun j c hj => ?_⟩
      obtain ⟨r, h2, h3⟩ := hrep.get hj
      refine ⟨r, ?_, h3.ext X⟩
      simp only [Tie.newFz, if_true, Nat.zero_add]
      rw [← Array.getElem?_toList]
      exact h2
  · simp at hs

theorem fieldsPlaces_mapM : ∀ {fs : List Field} {pl : List (Nat × Nat)}, fieldsPlaces P fs = some pl → fs.mapM (fun f => (P.info? f.type).map fun i => (f.offset, i.size)) = some pl
  | [], pl, h => by simp [fieldsPlaces] at h; subst h; rfl
  | f :: fs, pl, h => by
    simp only [fieldsPlaces, sizeO, Option.bind_eq_some_iff, Option.map_eq_some_iff] at h
    obtain ⟨n, ⟨i, hi, rfl⟩, r, hr, rfl⟩ := h
    have := fieldsPlaces_mapM hr
    simp [List.mapM_cons, hi, this]

theorem buildParts_all (hgl : GlobOk G gl) (he : RepEnv G en a.tmps) {pl : List (Nat × Nat)} {place : Nat → Option (Nat × Nat)} (hpl : ∀ i p, pl[i]? = some p → place i = some p) : ∀ {ps : List (Nat × Operand)} {qs : List (Nat × Nat × Opd)},
    buildParts gl pl ps = some qs → All2 (fun p r => place r.1 = some (p.1, p.2.1) ∧ RepV G p.2.2 r.2) (getParts en qs) (ps.map fun p => (p.1, a.eval p.2))
  | [], qs, h => by simp [buildParts] at h; subst h; simp [getParts, All2]
  | (i, x) :: ps, qs, h => by
    simp only [buildParts, Option.bind_eq_some_iff, Option.map_eq_some_iff] at h
    obtain ⟨p, hp, y, hy, r, hr, rfl⟩ := h
    simp only [getParts, List.map_cons, All2]
    exact ⟨_, _, rfl, ⟨hpl _ _ hp, opd_rep hgl he hy⟩, buildParts_all hgl he hpl hr⟩

theorem slcParts_all (hgl : GlobOk G gl) (he : RepEnv G en a.tmps) : ∀ {ps : List (Nat × Operand)} {qs : List (Nat × Opd)},
    slcParts gl ps = some qs → All2 (fun p r => p.1 = r.1 ∧ RepV G p.2 r.2) (getParts2 en qs) (ps.map fun p => (p.1, a.eval p.2))
  | [], qs, h => by simp [slcParts] at h; subst h; simp [getParts2, All2]
  | (i, x) :: ps, qs, h => by
    simp only [slcParts, Option.bind_eq_some_iff, Option.map_eq_some_iff] at h
    obtain ⟨y, hy, r, hr, rfl⟩ := h
    simp only [getParts2, List.map_cons, All2]
    exact ⟨_, _, rfl, ⟨rfl, opd_rep hgl he hy⟩, slcParts_all hgl he hr⟩

theorem ok_build {t : TypeId} {ps : Array (Nat × Operand)} {zs cs : List V} {qs : List (Nat × Nat × Opd)} {d : TypeDesc} (hop : o.op = .build t ps) (hgl : GlobOk G gl) (he : RepEnv G en a.tmps) (R : Rel G h w) (hd : P.underlying t = some d) (hz : zeroO P t = some zs)
    (hq : (∃ fs pl, d = .struct fs ∧ fieldsPlaces P fs.toList = some pl ∧ buildParts gl pl ps.toList = some qs) ∨ (∃ n e s, d = .array n e ∧ sizeO P e = some s ∧ buildParts gl ((List.range n).map fun i => (i * s, s)) ps.toList = some qs))
    (hf : fillParts zs (getParts en qs) = some cs) : OpOk P o a G h w (.agg cs) := by
  simp only [zeroO, Option.bind_eq_some_iff] at hz
  obtain ⟨z, ⟨it, hit, hz⟩, hs⟩ := hz
  have key : ∃ cells, P.built t (ps.toList.map fun p => (p.1, a.eval p.2)) = some cells ∧ RepL G cs cells.toList := by
    rcases hq with ⟨fs, pl, rfl, hp, hb⟩ | ⟨n, e, s, rfl, hs', hb⟩
    · obtain ⟨cells, h1, h2⟩ := fillParts_run (G := G) (pl.toArray[·]?) (scsOf_rep hs) hf (buildParts_all hgl he (by simp) hb)
      exact ⟨cells, by simp only [Program.built, hit, hd, hz, fieldsPlaces_mapM hp]; exact h1, h2⟩
    · simp only [sizeO, Option.map_eq_some_iff] at hs'
      obtain ⟨ie, hie, rfl⟩ := hs'
      obtain ⟨cells, h1, h2⟩ := fillParts_run (G := G) (fun i => some (i * ie.size, ie.size)) (scsOf_rep hs) hf (buildParts_all hgl he (fun i p hp => by
        simp only [List.getElem?_map, Option.map_eq_some_iff] at hp
        obtain ⟨j, hj, rfl⟩ := hp
        rw [List.getElem?_range] at hj
        · injection hj with hj; rw [hj]
        · rcases Nat.lt_or_ge i n with hl | hl
          · exact hl
          · rw [List.getElem?_eq_none (by simpa using hl)] at hj
            simp at hj) hb)
      exact ⟨cells, by simp only [Program.built, hit, hd, hz, hie]; exact h1, h2⟩
  obtain ⟨cells, h1, h2⟩ := key
  refine OpOk.quiet (s := Instr.build t (ps.map fun (i, x) => (i, a.eval x))) (r := .agg cells) R (by simp only [execOp, hop]) (run_build w t _ cells ?_) ?_
  · rw [← h1]
    congr 1
    simp
  · simp only [RepV]
    exact ⟨_, rfl, h2⟩

end
end Go.Am
end
section
/- Am: one operation, whole: the rest. -/
namespace Go.Am
open Go.RowKit (Below)
section
variable {P : Program} {gl : Nat → Option (List V)} {G : Tie} {en : Env} {h h' : Heap} {a : Act} {w : World} {o : Oper} {base : Nat} {v : V}

theorem ok_bslice {t e : TypeId} {n sz : Nat} {ps : Array (Nat × Operand)} {zs : List V} {qs : List (Nat × Opd)} (hop : o.op = .buildSlice t n ps) (hgl : GlobOk G gl) (he : RepEnv G en a.tmps) (R : Rel G h w)
    (ht : P.underlying t = some (.slice e)) (hg : growElem P e = some sz) (hz : zeroO P e = some zs) (hn : n * sz ≤ 2 ^ 24 ∧ zs.length = sz) (hq : slcParts gl ps.toList = some qs)
    {wr : Bool} (hs : step base en h (.bslice wr e sz zs n qs) = some (v, h')) : OpOk P o a G h' w v := by
  obtain ⟨i, z, hi, hz1, rfl, hpos, hby, hzs⟩ := growElem_inv hg
  simp only [step, Option.bind_eq_some_iff] at hs
  obtain ⟨rows, hf, hs⟩ := hs
  have hz' : scsOf z.cells.toList = some zs := by
    simp only [zeroO, hi, hz1, Option.bind_some] at hz
    exact hz
  obtain ⟨cells, h1, h2⟩ := fillRows_run (G := G) (n := n) (made_flat (n := n) hz' hzs) hf (slcParts_all hgl he hq)
  have hrl : rows.length * i.size = cells.size := by
    have := h2.1
    simpa using this.symm
  have hlen : rows.length = n := by
    have key : ∀ {ps : List (Nat × V)} {xs ys : List (List V)}, fillRows i.size xs ps = some ys → ys.length = xs.length := by
      intro ps
      induction ps with
      | nil => intro xs ys h; simp only [fillRows, Option.some.injEq] at h; rw [h]
      | cons p ps ih =>
        intro xs ys h
        obtain ⟨k, u⟩ := p
        unfold fillRows at h
        split at h
        · have := ih h; simpa using this
        · simp at h
    have := key hf
    simpa using this
  have hrun : (Instr.buildSlice t n (ps.map fun (i, x) => (i, a.eval x))).run P w = .ok (.slice (some ⟨w.heap.size, 0, none⟩) n n) (w.alloc (.cells cells e (0, 0))) := by
    have hps : (ps.map fun (i, x) => (i, a.eval x)).toList = ps.toList.map fun p => (p.1, a.eval p.2) := by simp
    have hnot : ¬ (2 ^ 24 < n * i.size) := by omega
    rw [← hps] at h1
    generalize (ps.map fun (i, x) => (i, a.eval x)) = parts at h1
    have hsize : (sizeOf e).run P w = .ok i.size w := by simp [sizeOf, typeInfo, hi]
    have hzv : (zeroValue e).run P w = .ok z w := by simp [zeroValue, typeInfo, hi, hz1]
    unfold madeCells at h1
    unfold Instr.buildSlice
    by_cases h0 : n * i.size = 0
    · have h1' : Instr.fill (fun j => some (j * i.size, i.size)) (Array.map (fun x => (#[] : Array Value)[x % (#[] : Array Value).size]!) (Array.range (n * i.size))) parts.toList = some cells := by
        have hm : ∀ f : Nat → Value, Array.map f (Array.range 0) = #[] := fun f => Array.eq_empty_of_size_eq_zero (by simp)
        rw [← h1, h0, hm, hm]
      simp only [Sem.run_bind, run_underlying ht w, Result.andThen_ok, hsize, gt_iff_lt, hnot, if_false, Sem.run_pure, if_pos h0, h1']
      rfl
    · simp only [Sem.run_bind, run_underlying ht w, Result.andThen_ok, hsize, gt_iff_lt, hnot, if_false, Sem.run_pure, if_neg h0, hzv, h1]
      rfl
  have hrows : ∀ r ∈ rows, r.length = i.size := fun r hr => by
    obtain ⟨k, hk⟩ := List.getElem?_of_mem hr
    exact (h2.2 k r hk).1
  have rowcase : (rows.all fun r => r.all oneCell) = true → some (V.hsl h.length 0 0 rows.length, h ++ [Obj.row e i.size 0 rows]) = some (v, h') → OpOk P o a G h' w v := by
    intro hone hs
    injection hs with hs
    simp only [Prod.mk.injEq] at hs
    obtain ⟨rfl, rfl⟩ := hs
    have hB : RepBlk G i.size cells rows := by
      have := h2.blk (rest := []) (fun r hr => (List.all_eq_true.1 hone) r hr)
      rwa [List.append_nil, Array.toArray_toList] at this
    refine OpOk.value (by simp only [execOp, hop]) hrun (Ext.newRow G ⟨0, i.size, w.heap.size, n⟩) (R.newRow e hpos (by omega) (by rw [← hrl, hlen]) hB) ?_ (below_alloc _ _ _ R.hb0)
    simp only [RepV]
    refine ⟨by simp [Tie.newRow, R.n], _, _, by rw [hlen], fun L hL => ?_⟩
    simp only [Tie.newRow, R.n, if_true, Option.some.injEq] at hL
    subst hL
    exact ⟨Nat.le_refl _, fun _ => ⟨by omega, by simp, fun _ => by simp⟩⟩
  split at hs
  · split at hs
    · rename_i hone
      exact rowcase hone hs
    · simp at hs
  split at hs
  · rename_i hgr
    injection hs with hs
    simp only [Prod.mk.injEq] at hs
    obtain ⟨rfl, rfl⟩ := hs
    obtain ⟨hR, hV⟩ := R.newSlc (ex := .lit) (rest := []) (cap := n) h2 hgr (by omega) (by omega) e (0, 0)
    rw [List.append_nil, Array.toArray_toList] at hR hV
    rw [hlen] at hV
    exact OpOk.value (by simp only [execOp, hop]) hrun (Ext.newFz R _) hR hV (below_alloc _ _ _ R.hb0)
  · split at hs
    · rename_i hone
      exact rowcase hone hs
    · simp at hs

theorem ok_makeSlice {t e : TypeId} {sz : Nat} {l c : Operand} {l' c' : Opd} {zs : List V} (hop : o.op = .makeSlice t l c) (hgl : GlobOk G gl) (he : RepEnv G en a.tmps) (R : Rel G h w)
    (ht : P.underlying t = some (.slice e)) (hg : growElem P e = some sz) (hz : zeroO P e = some zs) (hl : opd gl l = some l') (hc : opd gl c = some c')
    (hs : step base en h (.makeSlice e sz zs l' c') = some (v, h')) : OpOk P o a G h' w v := by
  obtain ⟨i, z, hi, hz1, rfl, hpos, hby, hzs⟩ := growElem_inv hg
  have hz' : scsOf z.cells.toList = some zs := by
    simp only [zeroO, hi, hz1, Option.bind_some] at hz
    exact hz
  simp only [step] at hs
  split at hs
  · rename_i n m hn hm
    split at hs
    · rename_i hcond
      injection hs with hs
      simp only [Prod.mk.injEq] at hs
      obtain ⟨rfl, rfl⟩ := hs
      obtain ⟨kl, il, e1, hl0, rfl⟩ := asNat_run (opd_rep hgl he hl) hn
      obtain ⟨kc, ic, e2, hc0, rfl⟩ := asNat_run (opd_rep hgl he hc) hm
      have hlim : ic.toNat ≤ 2 ^ 36 := hcond.2
      have hb : (i.bytes : Int) * ic ≤ 281474976710656 := by
        have h1 : (i.bytes : Int) * ic ≤ 1024 * ic := Int.mul_le_mul_of_nonneg_right (by omega) hc0
        omega
      have hrun := run_make (P := P) w t e i z ht hi hz1 kl kc il ic hl0 (by omega) hb (by omega)
      rw [← e1, ← e2] at hrun
      have hfl := made_flat (G := G) (n := ic.toNat) hz' hzs
      have hone := (scsOf_one hz').1
      have hB : RepBlk G i.size (madeCells z.cells (ic.toNat * i.size)) (List.replicate il.toNat zs) := by
        intro k cs hk
        rw [List.getElem?_replicate] at hk
        split at hk
        · rename_i hlt
          injection hk with hk
          subst hk
          obtain ⟨h1, h2⟩ := hfl.2 k zs (by rw [List.getElem?_replicate, if_pos (by omega)])
          exact ⟨h1, hone, fun j c hj => by obtain ⟨u, h3, h4⟩ := h2 j c hj; rw [Array.getElem?_toList] at h3; exact ⟨u, h3, h4⟩⟩
        · simp at hk
      refine OpOk.value (by simp only [execOp, hop]) hrun (Ext.newRow G ⟨0, i.size, w.heap.size, ic.toNat⟩) (R.newRow e hpos (by simpa using hcond.1) (size_madeCells _ _) hB) ?_ (below_alloc _ _ _ R.hb0)
      simp only [RepV]
      refine ⟨by simp [Tie.newRow, R.n], _, _, rfl, fun L hL => ?_⟩
      simp only [Tie.newRow, R.n, if_true, Option.some.injEq] at hL
      subst hL
      exact ⟨Nat.le_refl _, fun _ => ⟨hcond.1, by simp, fun _ => by simp⟩⟩
    · simp at hs
  · simp at hs

theorem ok_load {t : TypeId} {n : Option Nat} {x : Operand} {x' : Opd} (hop : o.op = .load t x) (hgl : GlobOk G gl) (he : RepEnv G en a.tmps) (R : Rel G h w) (hn : shapeO P t = some n) (hx : opd gl x = some x')
    (hv : loadV h n (x'.get en) = some v) : OpOk P o a G h w v := by
  obtain ⟨rx, h1, h2⟩ := load_run R hn (opd_rep hgl he hx) hv
  exact OpOk.quiet R (by simp only [execOp, hop]) h1 h2

theorem ok_store {t : TypeId} {n : Nat} {x y : Operand} {x' y' : Opd} (hop : o.op = .store t x y) (hgl : GlobOk G gl) (he : RepEnv G en a.tmps) (R : Rel G h w) (hn : sizeO P t = some n) (hx : opd gl x = some x') (hy : opd gl y = some y')
    (hv : storeV base h n (x'.get en) (y'.get en) = some h') : OpOk P o a G h' w .undef := by
  obtain ⟨w', h1, h2, hb⟩ := store_run R hn (opd_rep hgl he hx) (opd_rep hgl he hy) hv
  refine ⟨undef, w', G, .inr ⟨?_, rfl⟩, Ext.refl G, h2, by simp [RepV], hb⟩
  simp only [execOp, hop, Sem.run_bind, h1, Result.andThen_ok]
  rfl

theorem foldl_push : ∀ (ns : List Int) (s : ByteArray), ns.foldl (fun r n => r.push (UInt8.ofNat n.toNat)) s = ⟨s.data ++ (ns.map fun n => UInt8.ofNat n.toNat).toArray⟩
  | [], s => by simp
  | n :: ns, s => by
    rw [List.foldl_cons, foldl_push ns]
    simp [ByteArray.push]

theorem ok_strOf {src dst e : TypeId} {x : Operand} {x' : Opd} {rows : List (List V)} {l : List UInt8} (hop : o.op = .convert src dst x) (hgl : GlobOk G gl) (he : RepEnv G en a.tmps) (R : Rel G h w) (hsrc : P.underlying src = some (.slice e)) (hdst : P.underlying dst = some .string)
    (hel : P.underlying e = some (.int .u8)) (hx : opd gl x = some x') (h1 : elems 1 h (x'.get en) = some rows) (h2 : bytesIn rows = some l) : OpOk P o a G h w (.str ⟨l.toArray⟩) := by
  obtain ⟨aa, cap, rs, hr, _, hfl, hc⟩ := elems_run R (opd_rep hgl he hx) h1
  obtain ⟨ns, rfl, rfl⟩ := bytesIn_map h2
  have hrs : rs = ns.map (Value.int .u8) := by
    apply List.ext_getElem?
    intro k
    by_cases hk : k < ns.length
    · obtain ⟨_, h4⟩ := hfl.2 k [V.sc (.int .u8 ns[k])] (by simp [hk])
      obtain ⟨u, h5, h6⟩ := h4 0 _ rfl
      have := h6.sc_inv
      subst this
      simp at h5
      rw [h5]
      simp [hk]
    · have := hfl.1
      simp at this
      rw [List.getElem?_eq_none (by omega), List.getElem?_eq_none (by simp; omega)]
  subst hrs
  refine OpOk.quiet (s := convert src dst (a.eval x)) (r := .string ⟨(ns.map fun n => UInt8.ofNat n.toNat).toArray⟩) R (by simp only [execOp, hop]) ?_ (RepV.str _ _)
  rw [hr, run_convert_bytes_string w src dst e aa _ cap hsrc hel hdst]
  by_cases hne : ns = []
  · subst hne
    cases aa with
    | none => rfl
    | some b =>
      have := run_bytesToString (P := P) w b 0 cap [] (by simp [loadCells, loadCellsFrom])
      exact this
  · obtain ⟨b, oo, rfl, hcell⟩ := hc (by simpa using hne)
    have hload := run_loadCells_list (P := P) w ⟨b, oo, none⟩ (ns.map (Value.int .u8)) (fun j u hj => by rw [add_none]; exact hcell j u hj)
    have := run_bytesToString (P := P) w ⟨b, oo, none⟩ ns.length cap ns (by simpa using hload)
    rw [foldl_push] at this
    simp only [List.length_map]
    rw [this]
    simp

theorem ok_bytesOf {src dst e : TypeId} {x : Operand} {x' : Opd} {s : ByteArray} (hop : o.op = .convert src dst x) (hgl : GlobOk G gl) (he : RepEnv G en a.tmps) (R : Rel G h w) (hsrc : P.underlying src = some .string) (hdst : P.underlying dst = some (.slice e))
    (hel : P.underlying e = some (.int .u8)) (hx : opd gl x = some x') (h1 : x'.get en = .sc (.string s)) : OpOk P o a G h w (.slc .any 1 (bytesOut s)) := by
  have hxv := opd_rep hgl he hx
  rw [h1] at hxv
  have hxv := hxv.sc_inv
  have hrun := run_bytes_of_string (P := P) w src dst e s hsrc hdst hel
  have hlen : (bytesOut s).length = s.size := by
    simp [bytesOut]
  have hg : ((bytesOut s).all fun r => r.all ground) = true := by
    rw [List.all_eq_true]
    intro r hr
    simp only [bytesOut, List.mem_map] at hr
    obtain ⟨c, _, rfl⟩ := hr
    rfl
  obtain ⟨hR, hV⟩ := R.drew.newSlc (ex := .any) (rest := List.replicate (grownCap w s.size 0 e - s.size) (.int .u8 0)) (cap := grownCap w s.size 0 e) (bytesOut_flat G s) hg (by rw [hlen]; exact grownCap_ge _ _ _ _) (by simp [Cp.isFull]) e
    ((bytesRow s (grownCap w s.size 0 e)).size, (bytesRow s (grownCap w s.size 0 e)).size + 1)
  have hrow : (s.data.toList.map (fun (c : UInt8) => Value.int .u8 (c.toNat : Int)) ++ List.replicate (grownCap w s.size 0 e - s.size) (Value.int .u8 0)).toArray = bytesRow s (grownCap w s.size 0 e) := by
    unfold bytesRow
    apply Array.ext'
    simp
  rw [hrow] at hR hV
  rw [hlen] at hV
  exact OpOk.value (by simp only [execOp, hop, hxv]) hrun (Ext.newFz R.drew _) hR hV (below_drew_alloc _ _ _ R.hb0)

theorem sliceStr_run {t : TypeId} {s : ByteArray} {l e : Nat} {low high : Option Value} (ht : P.underlying t = some .string) (hl : OB 0 low l) (hh : OB s.size high e) (h1 : l ≤ e) (h2 : e ≤ s.size) :
    (Instr.sliceAt t (.string s) low high none).run P w = .ok (.string (s.extract l e)) w := by
  simp [Instr.sliceAt, Instr.slice, run_underlying ht w, bounds_run (P := P) (w := w) (b := false) hl hh (.inl ⟨rfl, rfl⟩ : OB s.size none s.size) (by simp) h1 h2 (Nat.le_refl _)]

theorem boundO_OB (hgl : GlobOk G gl) (he : RepEnv G en a.tmps) {d n : Nat} {x : Option Operand} {y : Option Opd} (h : opdO gl x = some y) (hb : boundO en d y = some n) : OB d (x.map a.eval) n := by
  cases x with
  | none =>
    simp only [opdO, Option.some.injEq] at h
    subst h
    simp only [boundO, Option.some.injEq] at hb
    exact .inl ⟨rfl, hb.symm⟩
  | some x =>
    simp only [opdO, Option.map_eq_some_iff] at h
    obtain ⟨y, hy, rfl⟩ := h
    simp only [boundO] at hb
    obtain ⟨k, i, h1, h2, h3⟩ := asNat_run (opd_rep hgl he hy) hb
    exact .inr ⟨k, i, by simp [h1], h2, h3⟩

end
end Go.Am
end
section
/- Am: one operation that is no call of a Go function, whole. -/
namespace Go.Am
open Go.RowKit (Below)
section
variable {P : Program} {gl : Nat → Option (List V)} {G : Tie} {en : Env} {h h' : Heap} {a : Act} {w : World} {o : Oper} {base : Nat} {v : V}

theorem some_pair {α β : Type} {x : Option α} {y : β} {p : α × β} (h : (x.map fun v => (v, y)) = some p) : x = some p.1 ∧ p.2 = y := by
  simp only [Option.map_eq_some_iff] at h
  obtain ⟨a, rfl, rfl⟩ := h
  exact ⟨rfl, rfl⟩

/-- A mark on a block that is nobody's. -/
theorem mark_run (R : Rel G h w) (p : Addr) (hown : ∀ b, G.real h b ≠ some p.block) (hb0 : G.b0 ≤ p.block) : ∃ w', (markStringish p).run P w = .ok () w' ∧ Rel G h w' ∧ Below G.b0 w w' := by
  unfold markStringish
  cases hsh : w.shape? p.block with
  | none => exact ⟨w, by simp [hsh], R, Below.refl _ _⟩
  | some q =>
    obtain ⟨e, n⟩ := q
    refine ⟨w.freeze ⟨p.block, n, none⟩ 1, by simp [hsh], ?_⟩
    have hother : ∀ c, c ≠ p.block → (w.freeze ⟨p.block, n, none⟩ 1).heap[c]? = w.heap[c]? := by
      intro c hc
      unfold World.freeze
      rw [if_neg (by omega)]
      simp [Array.getElem?_modify, Ne.symm hc]
    have hcell : ∀ c oo, (w.freeze ⟨p.block, n, none⟩ 1).cell? ⟨c, oo, none⟩ = w.cell? ⟨c, oo, none⟩ := by
      intro c oo
      by_cases hc : c = p.block
      · subst hc
        unfold World.cell? World.freeze
        rw [if_neg (by omega)]
        simp only [Array.getElem?_modify, if_true]
        cases hb : w.heap[p.block]? with
        | none => rfl
        | some ob =>
          cases ob <;> rfl
      · unfold World.cell?
        rw [hother c hc]
    have hreal : ∀ b k, G.real h b = some k → k ≠ p.block := fun b k hk e => hown b (e ▸ hk)
    have hsize : (w.freeze ⟨p.block, n, none⟩ 1).heap.size = w.heap.size := by
      unfold World.freeze
      rw [if_neg (by omega)]
      simp
    refine ⟨⟨R.n, fun b oo v hv => by rw [hcell]; exact R.fz b oo v hv, fun b t cs e => ?_, fun b t sz e rows eq => ?_, fun b es e => ?_, R.low, R.inj, ?_⟩, ?_⟩
    · obtain ⟨h1, rs, h2, h3⟩ := R.box b t cs e
      refine ⟨h1, rs, ?_, h3⟩
      rw [hother _ (hreal b _ (by unfold Tie.real; rw [e]))]
      exact h2
    · obtain ⟨h0, L, rs, h1, h2, h3, h4, h5, h6⟩ := R.row b t sz e rows eq
      refine ⟨h0, L, rs, h1, h2, h3, h4, ?_, h6⟩
      rw [hother _ (hreal b _ (by unfold Tie.real; rw [eq]; simp [h1]))]
      exact h5
    · obtain ⟨l, clock, h1, h2⟩ := R.mp b es e
      refine ⟨l, clock, ?_, h2⟩
      rw [hother _ (hreal b _ (by unfold Tie.real; rw [e]))]
      exact h1
    · rw [hsize]; exact R.hb0
    · refine ⟨?_, ?_, ?_, by rw [hsize]; exact Nat.le_refl _, fun k hk => hother k (by omega)⟩ <;> (unfold World.freeze; rw [if_neg (by omega)])

theorem ifTab_inv {t : TypeId} {k : LK} (h : (ifTab P).lookup t = some k) : k = .i ∧ ∃ i j, P.info? t = some i ∧ i.comparable = true ∧ P.underlying t = some (.int j) := by
  have hm : (t, k) ∈ ifTab P := by
    generalize ifTab P = l at h
    induction l with
    | nil => simp at h
    | cons x l ih =>
      obtain ⟨a, kb⟩ := x
      rw [List.lookup_cons] at h
      split at h
      · rename_i e
        injection h with h
        have := eq_of_beq e
        subst this; subst h
        simp
      · exact List.mem_cons_of_mem _ (ih h)
  simp only [ifTab, List.mem_filterMap] at hm
  obtain ⟨u, _, hm⟩ := hm
  split at hm
  · rename_i i hi
    split at hm
    · rename_i hcmp
      split at hm
      · split at hm
        · rename_i j hj
          simp only [Option.some.injEq, Prod.mk.injEq] at hm
          obtain ⟨rfl, rfl⟩ := hm
          exact ⟨rfl, i, j, hi, hcmp, hj⟩
        · simp at hm
      · simp at hm
    · simp at hm
  · simp at hm

theorem sameIfc_run {op : BinOp} {t : TypeId} {ms : Array (String × TypeId)} {neg : Bool} {x y : V} {b : Bool} {rx ry : Value} (hop : op = if neg then .neq else .eql) (ht : P.underlying t = some (.interface ms))
    (hx : RepV G x rx) (hy : RepV G y ry) (hv : sameIfc (ifTab P) x y = some b) (ox oy : Operand) : (do eqGuard op t ox oy rx ry; binOp op t rx ry : Sem Value).run P w = .ok (.bool (if neg then !b else b)) w := by
  have key : ∀ (c : Bool), (eqGuard op t ox oy rx ry).run P w = .ok () w → (∀ d, (Op.equalIn (d + 2) t rx ry).run P w = .ok c w) → (∀ z : Bool, binOp (if z then .neq else .eql) t rx ry = (do let r ← Op.equal t rx ry; pure (.bool (if z then !r else r)) : Sem Value)) → b = c → (do eqGuard op t ox oy rx ry; binOp op t rx ry : Sem Value).run P w = .ok (.bool (if neg then !b else b)) w := by
    rintro c h1 h3 h5 rfl
    have h4 : (Op.equal t rx ry).run P w = .ok b w := by
      simp only [Op.equal, Op.maxDepth]
      exact h3 9998
    simp only [Sem.run_bind, h1, Result.andThen_ok]
    rw [hop, h5 neg]
    simp only [Sem.run_bind, h4, Result.andThen_ok, Sem.run_pure]
  unfold sameIfc at hv
  split at hv
  · rename_i u a
    injection hv with hv
    have := hx.sc_inv
    subst this
    simp only [RepV] at hy
    obtain ⟨rv, rfl, _⟩ := hy
    refine key false ?_ (fun d => by simp [Op.equalIn, run_underlying ht]) (fun z => by cases z <;> simp [binOp]) hv.symm
    cases neg <;> simp only [Bool.false_eq_true, if_false, if_true] at hop <;> subst hop <;> simp [eqGuard]
  · rename_i u a
    injection hv with hv
    have := hy.sc_inv
    subst this
    simp only [RepV] at hx
    obtain ⟨rv, rfl, _⟩ := hx
    refine key false ?_ (fun d => by simp [Op.equalIn, run_underlying ht]) (fun z => by cases z <;> simp [binOp]) hv.symm
    cases neg <;> simp only [Bool.false_eq_true, if_false, if_true] at hop <;> subst hop <;> simp [eqGuard]
  · rename_i u1 a1 u2 a2
    simp only [RepV] at hx hy
    obtain ⟨r1, rfl, h1⟩ := hx
    obtain ⟨r2, rfl, h2⟩ := hy
    have hg : (eqGuard op t ox oy (.iface u1 r1) (.iface u2 r2)).run P w = .ok () w := by
      cases neg <;> simp only [Bool.false_eq_true, if_false, if_true] at hop <;> subst hop <;> simp [eqGuard]
    have hb : ∀ z : Bool, binOp (if z then .neq else .eql) t (.iface u1 r1) (.iface u2 r2) = (do let r ← Op.equal t (.iface u1 r1) (.iface u2 r2); pure (.bool (if z then !r else r)) : Sem Value) := fun z => by cases z <;> simp [binOp]
    split at hv
    · rename_i hu
      subst hu
      simp only [Option.bind_eq_some_iff] at hv
      obtain ⟨k, hk, hv⟩ := hv
      obtain ⟨rfl, i, j, hi, hcmp, hj⟩ := ifTab_inv hk
      unfold eqCell at hv
      split at hv
      · rename_i k1 n1 k2 n2 _
        split at hv
        · rename_i hkk
          subst hkk
          injection hv with hv
          have q1 := h1.sc_inv
          have q2 := h2.sc_inv
          subst q1; subst q2
          exact key (n1 == n2) hg (fun d => by simp [Op.equalIn, run_underlying ht, run_underlying hj, typeInfo, hi, hcmp]) hb hv.symm
        · simp at hv
      · rename_i e; simp at e
      · rename_i e; simp at e
      · simp at hv
    · rename_i hu
      injection hv with hv
      exact key false hg (fun d => by rw [Op.equalIn]; simp only [Sem.run_bind, run_underlying ht, Result.andThen_ok, ne_eq, hu, not_false_eq_true, if_true, Sem.run_pure]) hb hv.symm
  · simp at hv

theorem nk_iface {d : TypeDesc} (h : nkOf d = some .iface) : ∃ ms, d = .interface ms := by
  unfold nkOf at h
  split at h
  · injection h with h; exact absurd h (by simp)
  · injection h with h; exact absurd h (by simp)
  · exact ⟨_, rfl⟩
  · injection h with h; exact absurd h (by simp)
  · injection h with h; exact absurd h (by simp)
  · simp at h

theorem ok_bin {op : BinOp} {t ty : TypeId} {x y : Operand} {ao : AOp} (hop : o.op = .binOp op t x y ty) (hgl : GlobOk G gl) (he : RepEnv G en a.tmps) (R : Rel G h w) (hc : compBin P gl op t x y = some ao)
    (hs : step base en h ao = some (v, h')) : OpOk P o a G h' w v := by
  simp only [compBin, Option.bind_eq_some_iff] at hc
  obtain ⟨d, hd, x', hx, y', hy, hc⟩ := hc
  have hrx := opd_rep hgl he hx
  have hry := opd_rep hgl he hy
  have hbin : ao = .bin op x' y' → OpOk P o a G h' w v := by
    rintro rfl
    simp only [step] at hs
    obtain ⟨h1, h2⟩ := some_pair hs
    simp only at h1 h2
    subst h2
    obtain ⟨r, h3, h4⟩ := bin_run (P := P) (w := w) (t := t) (ox := x) (oy := y) hrx hry h1
    exact OpOk.quiet R (by simp only [execOp, hop]) h3 h4
  have hbool : ∀ neg, op = (if neg then .neq else .eql) → P.underlying t = some .bool → ao = .eqBool neg x' y' → OpOk P o a G h' w v := by
    rintro neg hopn ht rfl
    simp only [step] at hs
    split at hs
    · rename_i p q ep eq
      injection hs with hs
      simp only [Prod.mk.injEq] at hs
      obtain ⟨rfl, rfl⟩ := hs
      rw [ep] at hrx
      rw [eq] at hry
      have h3 := eqBool_run (P := P) (w := w) (neg := neg) (p := p) (q := q) (ox := x) (oy := y) ht
      rw [← hrx.sc_inv, ← hry.sc_inv, ← hopn] at h3
      exact OpOk.quiet R (by simp only [execOp, hop]) h3 (RepV.bool _ _)
    · simp at hs
  have hnil : ∀ neg k, op = (if neg then .neq else .eql) → nkOf d = some k → (isNilK k y = true ∧ ao = .isNil neg k x') ∨ (isNilK k x = true ∧ ao = .isNil neg k y') → OpOk P o a G h' w v := by
    intro neg k hopn hk hor
    have hnilv : ∀ z : Operand, isNilK k z = true → z = .const k.nilV := by
      intro z hz
      unfold isNilK at hz
      split at hz <;> first | rfl | simp at hz
    have hstep : ∀ z', ao = .isNil neg k z' → ∃ b, isNil k (z'.get en) = some b ∧ v = .bool (if neg then !b else b) ∧ h' = h := by
      rintro z' rfl
      simp only [step, Option.map_eq_some_iff, Prod.mk.injEq] at hs
      obtain ⟨b, h1, h2, h3⟩ := hs
      exact ⟨b, h1, h2.symm, h3.symm⟩
    rcases hor with ⟨hz, hao⟩ | ⟨hz, hao⟩
    · obtain ⟨b, h1, rfl, rfl⟩ := hstep _ hao
      have e := hnilv _ hz
      have h3 := (isNil_run (P := P) (w := w) (neg := neg) hd hk hrx h1 x y (.inr ⟨_, e⟩)).1
      have ey : a.eval y = k.nilV := by rw [e]; rfl
      rw [← hopn, ← ey] at h3
      exact OpOk.quiet R (by simp only [execOp, hop]) h3 (RepV.bool _ _)
    · obtain ⟨b, h1, rfl, rfl⟩ := hstep _ hao
      have e := hnilv _ hz
      have h3 := (isNil_run (P := P) (w := w) (neg := neg) hd hk hry h1 x y (.inl ⟨_, e⟩)).2
      have ex : a.eval x = k.nilV := by rw [e]; rfl
      rw [← hopn, ← ex] at h3
      exact OpOk.quiet R (by simp only [execOp, hop]) h3 (RepV.bool _ _)
  have hifc : ∀ neg, op = (if neg then .neq else .eql) → nkOf d = some .iface → ao = .eqIfc neg (ifTab P) x' y' → OpOk P o a G h' w v := by
    rintro neg hopn hk rfl
    obtain ⟨ms, rfl⟩ := nk_iface hk
    simp only [step, Option.map_eq_some_iff, Prod.mk.injEq] at hs
    obtain ⟨b, h1, rfl, rfl⟩ := hs
    have h3 := sameIfc_run (P := P) (w := w) hopn hd hrx hry h1 x y
    exact OpOk.quiet R (by simp only [execOp, hop]) h3 (RepV.bool _ _)
  split at hc
  · injection hc with hc; exact hbin hc.symm
  · injection hc with hc; exact hbin hc.symm
  · split at hc
    · injection hc with hc; exact hbool false rfl hd hc.symm
    · injection hc with hc; exact hbool true rfl hd hc.symm
    · simp at hc
  · rename_i te
    split at hc
    · split at hc
      · split at hc
        · rename_i hz; injection hc with hc; exact hnil false .ptr rfl rfl (.inl ⟨hz, hc.symm⟩)
        · split at hc
          · rename_i hz; injection hc with hc; exact hnil false .ptr rfl rfl (.inr ⟨hz, hc.symm⟩)
          · simp at hc
      · split at hc
        · rename_i hz; injection hc with hc; exact hnil true .ptr rfl rfl (.inl ⟨hz, hc.symm⟩)
        · split at hc
          · rename_i hz; injection hc with hc; exact hnil true .ptr rfl rfl (.inr ⟨hz, hc.symm⟩)
          · simp at hc
      · simp at hc
    · simp only [Option.bind_eq_some_iff] at hc
      obtain ⟨s, hz, hc⟩ := hc
      split at hc
      · simp at hc
      · rename_i h0
        have fin : ∀ neg, op = (if neg then .neq else .eql) → ao = .eqPtr neg x' y' → OpOk P o a G h' w v := by
          rintro neg hopn rfl
          simp only [step, Option.map_eq_some_iff, Prod.mk.injEq] at hs
          obtain ⟨b, h1, rfl, rfl⟩ := hs
          have h3 := samePtr_run (P := P) R hopn hd hz h0 hrx hry h1 x y
          exact OpOk.quiet R (by simp only [execOp, hop]) h3 (RepV.bool _ _)
        split at hc
        · injection hc with hc; exact fin false rfl hc.symm
        · injection hc with hc; exact fin true rfl hc.symm
        · simp at hc
  · simp only [Option.bind_eq_some_iff] at hc
    obtain ⟨k, hk, hc⟩ := hc
    split at hc
    · split at hc
      · rename_i hz; injection hc with hc; exact hnil false k rfl hk (.inl ⟨hz, hc.symm⟩)
      · split at hc
        · rename_i hz; injection hc with hc; exact hnil false k rfl hk (.inr ⟨hz, hc.symm⟩)
        · split at hc
          · rename_i hki; injection hc with hc; exact hifc false rfl (hki ▸ hk) hc.symm
          · simp at hc
    · split at hc
      · rename_i hz; injection hc with hc; exact hnil true k rfl hk (.inl ⟨hz, hc.symm⟩)
      · split at hc
        · rename_i hz; injection hc with hc; exact hnil true k rfl hk (.inr ⟨hz, hc.symm⟩)
        · split at hc
          · rename_i hki; injection hc with hc; exact hifc true rfl (hki ▸ hk) hc.symm
          · simp at hc
    · simp at hc

theorem ok_conv {src dst : TypeId} {x : Operand} {ao : AOp} (hop : o.op = .convert src dst x) (hgl : GlobOk G gl) (he : RepEnv G en a.tmps) (R : Rel G h w) (hc : compConv P gl src dst x = some ao)
    (hs : step base en h ao = some (v, h')) : OpOk P o a G h' w v := by
  simp only [compConv, Option.bind_eq_some_iff] at hc
  obtain ⟨s, hsrc, d, hdst, x', hx, hc⟩ := hc
  have hrx := opd_rep hgl he hx
  split at hc
  · rename_i k0 k
    injection hc with hc
    subst hc
    simp only [step] at hs
    split at hs
    · rename_i j n e
      injection hs with hs
      simp only [Prod.mk.injEq] at hs
      obtain ⟨rfl, rfl⟩ := hs
      rw [e] at hrx
      refine OpOk.quiet (s := convert src dst (a.eval x)) R (by simp only [execOp, hop]) ?_ (RepV.int _ _ _)
      rw [hrx.sc_inv]
      simp [convert, run_underlying hsrc, run_underlying hdst, Conv.intToInt]
    · simp at hs
  · injection hc with hc
    subst hc
    simp only [step] at hs
    split at hs
    · rename_i s e
      injection hs with hs
      simp only [Prod.mk.injEq] at hs
      obtain ⟨rfl, rfl⟩ := hs
      rw [e] at hrx
      refine OpOk.quiet (s := convert src dst (a.eval x)) R (by simp only [execOp, hop]) ?_ (RepV.str _ _)
      rw [hrx.sc_inv]
      simp [convert, run_underlying hsrc, run_underlying hdst]
    · simp at hs
  · split at hc
    · rename_i e he'
      injection hc with hc
      subst hc
      simp only [step, Option.bind_eq_some_iff, Option.map_eq_some_iff, Prod.mk.injEq] at hs
      obtain ⟨rows, h1, l, h2, rfl, rfl⟩ := hs
      exact ok_strOf hop hgl he R hsrc hdst he' hx h1 h2
    · simp at hc
  · split at hc
    · rename_i e he'
      injection hc with hc
      subst hc
      simp only [step] at hs
      split at hs
      · rename_i s es
        split at hs
        · injection hs with hs
          simp only [Prod.mk.injEq] at hs
          obtain ⟨rfl, rfl⟩ := hs
          exact ok_bytesOf hop hgl he R hsrc hdst he' hx es
        · simp at hs
      · simp at hs
    · simp at hc
  · rename_i e0 e
    split at hc
    · rename_i esd
      subst esd
      split at hc
      · rename_i he'
        injection hc with hc
        subst hc
        simp only [step] at hs
        split at hs
        · rename_i r rs es
          injection hs with hs
          simp only [Prod.mk.injEq] at hs
          obtain ⟨rfl, rfl⟩ := hs
          rw [es] at hrx
          have hV := hrx
          simp only [RepV] at hrx
          obtain ⟨aa, cap, hr, hr1, hr2, hr3, b, oo, ha, hb0, hR⟩ := hrx
          rw [ha (by simp)] at hr
          have hee : e0 = e := by
            rw [hsrc] at hdst
            injection hdst with hdst
            injection hdst
          subst hee
          have hf : ∃ u, G.fz b oo = some u := by
            simp only [RepRows] at hR
            obtain ⟨h1, h2, _⟩ := hR
            cases r with
            | nil => simp at h1
            | cons c r =>
              simp only [RepF] at h2
              obtain ⟨⟨u, hu, _⟩, _⟩ := h2
              exact ⟨u, hu⟩
          obtain ⟨w', hm, hR', hbl⟩ := mark_run (P := P) R ⟨b, oo, none⟩ (fun k hk => by
            obtain ⟨u, hu⟩ := hf
            rw [(R.low k _ hk).2 oo] at hu
            simp at hu) (hb0 trivial (by simp))
          refine OpOk.value (s := convert src src (a.eval x)) (r := a.eval x) (w' := w') (by simp only [execOp, hop]) ?_ (Ext.refl G) hR' hV hbl
          rw [hr]
          simp [convert, run_underlying hsrc, run_underlying he', hm]
        · simp at hs
      · simp at hc
    · simp at hc
  · simp only [Option.bind_eq_some_iff] at hc
    obtain ⟨z, hz, hc⟩ := hc
    split at hc
    · simp at hc
    · rename_i h0
      injection hc with hc
      subst hc
      simp only [step] at hs
      obtain ⟨h1, h2⟩ := some_pair hs
      simp only at h1 h2
      subst h2
      obtain ⟨h3, h4⟩ := uncast_run (P := P) R hsrc hdst hz h0 hrx h1
      exact OpOk.quiet R (by simp only [execOp, hop]) h3 h4
  · simp only [Option.bind_eq_some_iff] at hc
    obtain ⟨z, hz, hc⟩ := hc
    split at hc
    · rename_i hl
      injection hc with hc
      subst hc
      simp only [step] at hs
      obtain ⟨h1, h2⟩ := some_pair hs
      simp only at h1 h2
      subst h2
      obtain ⟨h3, h4⟩ := cast_run (P := P) R hsrc hdst hz hl hrx h1
      exact OpOk.quiet R (by simp only [execOp, hop]) h3 h4
    · simp at hc
  · simp at hc

end
end Go.Am
end
section
/- Am: maps. -/
namespace Go.Am
open Go.RowKit (Below)
section
variable {P : Program} {gl : Nat → Option (List V)} {G : Tie} {en : Env} {h h' : Heap} {a : Act} {w : World} {o : Oper} {base : Nat} {v : V}

/-- The kind of keys that a type has. -/
theorem keyIs_inv {kt : TypeId} {kd : LK} {k : V} {r key : Value} (hk : keyKind P kt = some kd) (hr : RepV G k r) (hi : keyIs kd k = some key) : ∃ d, P.underlying kt = some d ∧ MapKept.IsKey d key ∧ r = key := by
  unfold keyKind at hk
  split at hk
  · rename_i hd
    injection hk with hk
    subst hk
    unfold keyIs at hi
    split at hi
    all_goals try (exfalso; simp_all; done)
    rename_i a e1 e2
    injection hi with hi
    exact ⟨_, hd, by rw [← hi]; simp [MapKept.IsKey], by rw [hr.sc_inv, hi]⟩
  · rename_i hd
    injection hk with hk
    subst hk
    unfold keyIs at hi
    split at hi
    all_goals try (exfalso; simp_all; done)
    rename_i a e1 e2
    injection hi with hi
    exact ⟨_, hd, by rw [← hi]; simp [MapKept.IsKey], by rw [hr.sc_inv, hi]⟩
  · rename_i hd
    injection hk with hk
    subst hk
    unfold keyIs at hi
    split at hi
    all_goals try (exfalso; simp_all; done)
    rename_i a e1 e2
    injection hi with hi
    exact ⟨_, hd, by rw [← hi]; simp [MapKept.IsKey], by rw [hr.sc_inv, hi]⟩
  · simp at hk

theorem keyEq_same {d : TypeDesc} {key y : Value} {t : Bool} (hk : MapKept.IsKey d key) (he : keyEq key y = some t) : Instr.sameNow d key y = some t := by
  unfold keyEq at he
  split at he
  · cases d <;> simp [MapKept.IsKey] at hk
    simpa [Instr.sameNow] using he
  · cases d <;> simp [MapKept.IsKey] at hk
    simpa [Instr.sameNow] using he
  · cases d <;> simp [MapKept.IsKey] at hk
    simpa [Instr.sameNow] using he
  · simp at he

theorem keyEq_eq {key y : Value} (he : keyEq key y = some true) : key = y := by
  unfold keyEq at he
  split at he
  · injection he with he
    rw [(MapKept.bytes_beq _ _).1 he]
  · split at he
    · rename_i hk
      injection he with he
      simp at he
      rw [hk, he]
    · simp at he
  · injection he with he
    simp at he
    rw [he]
  · simp at he

theorem findM_run {d : TypeDesc} {key : Value} (hk : MapKept.IsKey d key) : ∀ {es : List (Value × V)} {l : List MapEntry} {i : Nat} {r : Option (Nat × V)}, RepM G es l → findM key es i = some r →
    (r = none ∧ Instr.findNow d key l i = some none) ∨ ∃ j v x, r = some (i + j, v) ∧ l[j]? = some x ∧ x.key = key ∧ RepV G v x.val ∧ Instr.findNow d key l i = some (some (i + j, x.val))
  | [], l, i, r, hR, hf => by
    simp only [RepM] at hR
    subst hR
    simp only [findM, Option.some.injEq] at hf
    exact .inl ⟨hf.symm, rfl⟩
  | e :: es, l, i, r, hR, hf => by
    simp only [RepM] at hR
    obtain ⟨x, rest, rfl, h1, h2, h3⟩ := hR
    unfold findM at hf
    split at hf
    · rename_i he
      injection hf with hf
      have hs := keyEq_same hk he
      rw [← h1] at hs
      exact .inr ⟨0, e.2, x, hf.symm, rfl, by rw [h1, keyEq_eq he], h2, by simp [Instr.findNow, hs]⟩
    · rename_i he
      have hs := keyEq_same hk he
      rw [← h1] at hs
      rcases findM_run hk h3 hf with ⟨q1, q2⟩ | ⟨j, v, y, q1, q2, q3, q4, q5⟩
      · exact .inl ⟨q1, by simp [Instr.findNow, hs, q2]⟩
      · exact .inr ⟨j + 1, v, y, by rw [q1]; congr 2; omega, by simpa using q2, q3, q4, by simp [Instr.findNow, hs, q5]; omega⟩
    · simp at hf

theorem zeroV_run {t : TypeId} {z : V} (hz : zeroV P t = some z) (w : World) : ∃ r, (zeroValue t).run P w = .ok r w ∧ RepV G z r := by
  simp only [zeroV, Option.bind_eq_some_iff] at hz
  obtain ⟨r, ⟨i, hi, hz⟩, hv⟩ := hz
  exact ⟨r, by simp [zeroValue, typeInfo, hi, hz], valOf_rep hv⟩

theorem ok_makeMap {t : TypeId} (hop : o.op = .makeMap t none) (R : Rel G h w) : OpOk P o a G (h ++ [.mmap []]) w (.mp h.length) := by
  refine OpOk.value (s := Instr.makeMap t none) (r := .map (some w.heap.size)) (w' := w.alloc (.map #[] 0)) (by simp only [execOp, hop, Option.map_none]) (by simp [Instr.makeMap]) (Ext.newBox G w.heap.size) R.newMap ?_ (below_alloc _ _ _ R.hb0)
  simp [RepV, Tie.newBox, R.n]

theorem ok_lookup {t kt et : TypeId} {m k : Operand} {ok : Bool} {m' k' : Opd} {kd : LK} {z : V} (hop : o.op = .lookup t m k ok) (hgl : GlobOk G gl) (he : RepEnv G en a.tmps) (R : Rel G h w) (ht : P.underlying t = some (.map kt et)) (hkd : keyKind P kt = some kd) (hz : zeroV P et = some z)
    (hm : opd gl m = some m') (hk : opd gl k = some k') (hs : step base en h (.lookup kd z ok m' k') = some (v, h')) : OpOk P o a G h' w v := by
  simp only [step, Option.map_eq_some_iff, Prod.mk.injEq] at hs
  obtain ⟨⟨u, f⟩, h1, rfl, rfl⟩ := hs
  unfold lookupV at h1
  simp only [Option.bind_eq_some_iff] at h1
  obtain ⟨key, hkey, h1⟩ := h1
  obtain ⟨d, hd, hik, hrk⟩ := keyIs_inv hkd (opd_rep hgl he hk) hkey
  have hrm := opd_rep hgl he hm
  obtain ⟨rz, hzr, hzv⟩ := zeroV_run (G := G) hz w
  have fin : ∀ (rv : Value), RepV G u rv → (Instr.lookup t (a.eval m) (a.eval k) ok).run P w = .ok (if ok then .tuple #[rv, .bool f] else rv) w → OpOk P o a G h w (if ok then V.tup [u, .bool f] else u) := by
    intro rv hv hrun
    refine OpOk.quiet R (by simp only [execOp, hop]) hrun ?_
    cases ok
    · exact hv
    · simp only [if_true, RepV]
      exact ⟨_, rfl, by simp only [RepL]; exact ⟨_, _, rfl, hv, _, _, rfl, RepV.bool _ _, rfl⟩⟩
  split at h1
  · rename_i em
    rw [em] at hrm
    injection h1 with h1
    simp only [Prod.mk.injEq] at h1
    obtain ⟨rfl, rfl⟩ := h1
    have hrm := hrm.sc_inv
    have hc : (Instr.checkKey true 10000 kt key).run P w = .ok () w := MapKept.run_checkKey hd hik true 9999
    have hf : (Instr.findKey kt key []).run P w = .ok none w := MapKept.run_findKey hd rfl
    refine fin rz hzv ?_
    rw [hrm, hrk]
    cases ok <;> simp [Instr.lookup, run_underlying ht, hc, hf, hzr, Result.andThen]
  · rename_i b em
    rw [em] at hrm
    split at h1
    · rename_i es eb
      simp only [Option.map_eq_some_iff] at h1
      obtain ⟨r, hr, h1⟩ := h1
      obtain ⟨l, clock, hw, hR⟩ := R.mp b es eb
      simp only [RepV] at hrm
      obtain ⟨_, hrm⟩ := hrm
      have hc : ∀ e, (Instr.checkKey e 10000 kt key).run P w = .ok () w := fun e => MapKept.run_checkKey hd hik e 9999
      rcases findM_run hik hR hr with ⟨rfl, q2⟩ | ⟨j, v2, x, rfl, q2, q3, q4, q5⟩
      · simp only [Prod.mk.injEq] at h1
        obtain ⟨rfl, rfl⟩ := h1
        have hf := MapKept.run_findKey (P := P) (w := w) hd q2
        refine fin rz hzv ?_
        rw [hrm, hrk]
        cases ok <;> simp [Instr.lookup, run_underlying ht, MapKept.run_getObj_map hw, hc, hf, hzr, Result.andThen]
      · simp only [Prod.mk.injEq] at h1
        obtain ⟨rfl, rfl⟩ := h1
        have hf := MapKept.run_findKey (P := P) (w := w) hd q5
        refine fin x.val q4 ?_
        rw [hrm, hrk]
        cases ok <;> simp [Instr.lookup, run_underlying ht, MapKept.run_getObj_map hw, hc, hf, Result.andThen]
    · simp at h1
  · simp at h1

theorem sameBits_key {d : TypeDesc} {key : Value} (hk : MapKept.IsKey d key) : Instr.sameBits 10000 key key = true := by
  cases d <;> cases key <;> simp_all [MapKept.IsKey, Instr.sameBits]
  exact (MapKept.bytes_beq _ _).2 rfl

theorem ok_mapUpdate {t kt et : TypeId} {m k x : Operand} {m' k' x' : Opd} {kd : LK} (hop : o.op = .mapUpdate t m k x ∨ o.op = .insert t m k x) (hgl : GlobOk G gl) (he : RepEnv G en a.tmps) (R : Rel G h w) (ht : P.underlying t = some (.map kt et)) (hkd : keyKind P kt = some kd)
    (hm : opd gl m = some m') (hk : opd gl k = some k') (hx : opd gl x = some x') (hs : step base en h (.mapUpdate kd m' k' x') = some (v, h')) : OpOk P o a G h' w v := by
  simp only [step, Option.map_eq_some_iff, Prod.mk.injEq] at hs
  obtain ⟨h2, h1, rfl, rfl⟩ := hs
  unfold updateV at h1
  simp only [Option.bind_eq_some_iff] at h1
  obtain ⟨key, hkey, h1⟩ := h1
  obtain ⟨d, hd, hik, hrk⟩ := keyIs_inv hkd (opd_rep hgl he hk) hkey
  have hrm := opd_rep hgl he hm
  have hrx := opd_rep hgl he hx
  split at h1
  · rename_i b em
    rw [em] at hrm
    split at h1
    · rename_i es eb
      split at h1
      · rename_i hcond
        simp only [Option.map_eq_some_iff] at h1
        obtain ⟨r, hr, h1⟩ := h1
        obtain ⟨l, clock, hw, hR⟩ := R.mp b es eb
        simp only [RepV] at hrm
        obtain ⟨_, hrm⟩ := hrm
        have hreal : G.real h b = some (G.bx b) := by unfold Tie.real; rw [eb]
        have hc : (Instr.checkKey false 10000 kt key).run P w = .ok () w := MapKept.run_checkKey hd hik false 9999
        have hlt : G.bx b < w.heap.size := R.lt hreal
        have fin : ∀ (l' : Array MapEntry) (clock' : Nat) (es' : List (Value × V)), (Instr.mapUpdate t (a.eval m) (a.eval k) (a.eval x)).run P w = .ok () { w with heap := w.heap.setIfInBounds (G.bx b) (.map l' clock') } →
            RepM G es' l'.toList → OpOk P o a G (h.set b (.mmap es')) w .undef := by
          intro l' clock' es' hrun hR'
          refine ⟨undef, _, G, .inr ⟨?_, rfl⟩, Ext.refl G, R.setMap (w' := { w with heap := w.heap.setIfInBounds (G.bx b) (.map l' clock') }) eb (by simp) ?_ (clock := clock') (by simp [hlt]) hR', by simp [RepV], ⟨rfl, rfl, rfl, by simp, ?_⟩⟩
          · rcases hop with hop | hop <;> simp only [execOp, hop, Sem.run_bind, hrun, Result.andThen_ok] <;> rfl
          · intro c hc _
            simp [Ne.symm hc]
          · intro c hc
            have := (R.low b _ hreal).1
            simp [show ¬ G.bx b = c by omega]
        rcases findM_run hik hR hr with ⟨rfl, q2⟩ | ⟨j, v2, y, rfl, q2, q3, q4, q5⟩
        · simp only at h1
          subst h1
          have hf := MapKept.run_findKey (P := P) (w := w) hd q2
          refine fin (l.push { key, val := a.eval x, born := clock }) (clock + 1) _ ?_ ?_
          · rw [hrm, hrk]
            simp [Instr.mapUpdate, run_underlying ht, MapKept.run_getObj_map hw, hc, hf, MapKept.run_setObj_map _ hw, Result.andThen]
          · rw [Array.toList_push]
            exact RepM.snoc rfl hrx hR
        · simp only [Nat.zero_add] at h1
          subst h1
          have hf := MapKept.run_findKey (P := P) (w := w) hd q5
          have hkeep : (Instr.keyThatStays key key).run P w = .ok key w := by
            simp [Instr.keyThatStays, sameBits_key hik]
          have hy : l[j]? = some y := by rw [← Array.getElem?_toList]; exact q2
          refine fin (l.modify j fun e => { e with key, val := a.eval x }) clock _ ?_ ?_
          · rw [hrm, hrk]
            simp only [Nat.zero_add] at hf
            simp [Instr.mapUpdate, run_underlying ht, MapKept.run_getObj_map hw, hc, hf, hy, q3, hkeep, MapKept.run_setObj_map _ hw, Result.andThen]
          · have hm : (l.modify j fun e => { e with key, val := a.eval x }).toList = l.toList.set j { y with key, val := a.eval x } := by
              apply List.ext_getElem?
              intro n
              simp only [Array.getElem?_toList, Array.getElem?_modify, List.getElem?_set]
              by_cases hn : j = n
              · subst hn
                obtain ⟨hl, hl2⟩ := Array.getElem?_eq_some_iff.1 hy
                simp [hl, hl2]
              · simp [hn]
            rw [hm]
            exact RepM.set rfl hrx hR
      · simp at h1
    · simp at h1
  · simp at h1


theorem lenM_run {t kt et ty : TypeId} {x : V} {r : Value} {n : Nat} (R : Rel G h w) (ht : P.underlying t = some (.map kt et)) (hx : RepV G x r) (hv : lenMV h x = some n) : (Builtin.len_ #[t] ty #[r]).run P w = .ok (.int .i64 n) w := by
  unfold lenMV at hv
  split at hv
  · injection hv with hv
    subst hv
    have := hx.sc_inv
    subst this
    simp [Builtin.len_, run_underlying ht, goInt]
  · rename_i b
    split at hv
    · rename_i es eb
      injection hv with hv
      subst hv
      obtain ⟨l, clock, hw, hR⟩ := R.mp b es eb
      simp only [RepV] at hx
      obtain ⟨_, rfl⟩ := hx
      have := hR.length
      simp only [Array.length_toList] at this
      simp [Builtin.len_, run_underlying ht, MapKept.run_getObj_map hw, goInt, this, Result.andThen]
    · simp at hv
  · simp at hv
end
end Go.Am
end
section
/- Am: one operation that is no call of a Go function, whole: slices, builtins; and all together. -/
namespace Go.Am
open Go.RowKit (Below)
section
variable {P : Program} {gl : Nat → Option (List V)} {G : Tie} {en : Env} {h h' : Heap} {a : Act} {w : World} {o : Oper} {base : Nat} {v : V}

theorem ok_sliceStr {t : TypeId} {x : Operand} {lo hi : Option Operand} {x' : Opd} {lo' hi' : Option Opd} (hop : o.op = .slice t x lo hi none) (hgl : GlobOk G gl) (he : RepEnv G en a.tmps) (R : Rel G h w) (ht : P.underlying t = some .string)
    (hx : opd gl x = some x') (hl : opdO gl lo = some lo') (hh : opdO gl hi = some hi') (hs : step base en h (.sliceStr x' lo' hi') = some (v, h')) : OpOk P o a G h' w v := by
  have hrx := opd_rep hgl he hx
  simp only [step] at hs
  split at hs
  · rename_i s es
    simp only [Option.bind_eq_some_iff] at hs
    obtain ⟨l, h1, e, h2, hs⟩ := hs
    split at hs
    · rename_i hc
      injection hs with hs
      simp only [Prod.mk.injEq] at hs
      obtain ⟨rfl, rfl⟩ := hs
      rw [es] at hrx
      have h3 := sliceStr_run (P := P) (w := w) ht (boundO_OB hgl he hl h1) (boundO_OB hgl he hh h2) hc.1 hc.2
      rw [← hrx.sc_inv] at h3
      exact OpOk.quiet R (by simp only [execOp, hop, Option.map_none]) h3 (RepV.str _ _)
    · simp at hs
  · simp at hs

theorem ok_slice {t e : TypeId} {sz : Nat} {x : Operand} {lo hi mx : Option Operand} {x' : Opd} {lo' hi' mx' : Option Opd} (hop : o.op = .slice t x lo hi mx) (hgl : GlobOk G gl) (he : RepEnv G en a.tmps) (R : Rel G h w)
    (ht : P.underlying t = some (.slice e)) (hg : growElem P e = some sz)
    (hx : opd gl x = some x') (hl : opdO gl lo = some lo') (hh : opdO gl hi = some hi') (hm : opdO gl mx = some mx') (hs : step base en h (.slice sz x' lo' hi' mx') = some (v, h')) : OpOk P o a G h' w v := by
  have hrx := opd_rep hgl he hx
  obtain ⟨i, z, hi1, hz1, rfl, _⟩ := growElem_inv hg
  have hsz : sizeO P e = some i.size := by simp [sizeO, hi1]
  simp only [step, Option.bind_eq_some_iff] at hs
  obtain ⟨l, h1, hs⟩ := hs
  have hlo := boundO_OB hgl he hl h1
  have some_inv : ∀ {q : Option Operand} {y : Opd}, opdO gl q = some (some y) → ∃ z, q = some z ∧ opd gl z = some y := by
    intro q y hq
    cases q with
    | none => simp [opdO] at hq
    | some z =>
      simp only [opdO, Option.map_eq_some_iff, Option.some.injEq] at hq
      obtain ⟨u, hu, rfl⟩ := hq
      exact ⟨z, rfl, hu⟩
  have none_inv : ∀ {q : Option Operand}, opdO gl q = some none → q = none := by
    intro q hq
    cases q with
    | none => rfl
    | some z => simp [opdO] at hq
  have fin : ∀ {hin mxn : Option Nat}, (∀ d, OB d (hi.map a.eval) (hin.getD d)) → (∀ d, OB d (mx.map a.eval) (mxn.getD d)) → (hi.map a.eval = none → mx.map a.eval = none) → (mxn = none ↔ mx.map a.eval = none) → (hin = none → mxn = none) →
      sliceV h i.size (x'.get en) l hin mxn = some (v, h') → OpOk P o a G h' w v := by
    intro hin mxn a1 a2 a3 a4 a5 hv
    obtain ⟨r, G', h3, h4, h5, h6⟩ := sliceV_run R ht hsz hrx hlo a1 a2 a3 a4 a5 hv
    exact OpOk.value (by simp only [execOp, hop]) h3 h4 h5 h6 (Below.refl _ _)
  split at hs
  · have e1 := none_inv hh
    have e2 := none_inv hm
    subst e1; subst e2
    exact fin (fun d => .inl ⟨rfl, rfl⟩) (fun d => .inl ⟨rfl, rfl⟩) (fun _ => rfl) (by simp) (fun _ => rfl) hs
  · rename_i eo
    have e2 := none_inv hm
    obtain ⟨z1, rfl, hz⟩ := some_inv hh
    subst e2
    simp only [Option.bind_eq_some_iff] at hs
    obtain ⟨en1, h2, hs⟩ := hs
    obtain ⟨k, i1, b1, b2, b3⟩ := asNat_run (opd_rep hgl he hz) h2
    exact fin (fun d => .inr ⟨k, i1, by simp [b1], b2, by simpa using b3⟩) (fun d => .inl ⟨rfl, rfl⟩) (fun _ => rfl) (by simp) (fun _ => rfl) hs
  · rename_i eo mo
    obtain ⟨z1, rfl, hz⟩ := some_inv hh
    obtain ⟨z2, rfl, hz2⟩ := some_inv hm
    simp only [Option.bind_eq_some_iff] at hs
    obtain ⟨en1, h2, m, h3, hs⟩ := hs
    obtain ⟨k, i1, b1, b2, b3⟩ := asNat_run (opd_rep hgl he hz) h2
    obtain ⟨k', i2, c1, c2, c3⟩ := asNat_run (opd_rep hgl he hz2) h3
    exact fin (fun d => .inr ⟨k, i1, by simp [b1], b2, by simpa using b3⟩) (fun d => .inr ⟨k', i2, by simp [c1], c2, by simpa using c3⟩) (by simp) (by simp) (by simp) hs
  · simp at hs

theorem ok_sliceArr {t e : TypeId} {n sz : Nat} {x : Operand} {lo hi : Option Operand} {x' : Opd} {lo' hi' : Option Opd} (hop : o.op = .slice t x lo hi none) (hgl : GlobOk G gl) (he : RepEnv G en a.tmps) (R : Rel G h w)
    (ht : P.underlying t = some (.array n e)) (hg : growElem P e = some sz)
    (hx : opd gl x = some x') (hl : opdO gl lo = some lo') (hh : opdO gl hi = some hi') (hs : step base en h (.sliceArr n sz x' lo' hi') = some (v, h')) : OpOk P o a G h' w v := by
  have hrx := opd_rep hgl he hx
  obtain ⟨i, z, hi1, hz1, rfl, _⟩ := growElem_inv hg
  have hsz : sizeO P e = some i.size := by simp [sizeO, hi1]
  simp only [step] at hs
  split at hs
  · rename_i cs l e' es h1 h2
    split at hs
    · rename_i hc
      obtain ⟨rfl, rfl, hnc, hpos, hn0⟩ := hc
      injection hs with hs
      simp only [Prod.mk.injEq] at hs
      obtain ⟨rfl, rfl⟩ := hs
      rw [es] at hrx
      simp only [RepV, Nat.add_zero] at hrx
      obtain ⟨b, oo, hr, hgr, hF⟩ := hrx
      have hb := bounds_run (P := P) (w := w) (b := false) (len := e') (cap := e') (boundO_OB hgl he hl h1) (boundO_OB hgl he hh h2) (.inl ⟨rfl, rfl⟩ : OB e' none e') (by simp) (Nat.zero_le _) (Nat.le_refl _) (Nat.le_refl _)
      refine OpOk.quiet (s := Instr.sliceAt t (a.eval x) (lo.map a.eval) (hi.map a.eval) none) (r := .slice (some ⟨b, oo, none⟩) e' e') R (by simp only [execOp, hop, Option.map_none]) ?_ ?_
      · rw [hr]
        simp [Instr.sliceAt, run_underlying ht w, Instr.sureAddr, hb, sizeO_run hsz w, Addr.add]
      · have hlen : ((List.range e').map fun k => (cs.drop (k * i.size)).take i.size).length = e' := by simp
        simp only [RepV]
        refine ⟨_, _, by rw [hlen], by rw [hlen]; exact Nat.le_refl _, fun _ => by rw [hlen], ?_, b, oo, fun _ => rfl, by simp, RepRows.of_get fun k c hk => ?_⟩
        · rw [List.all_eq_true]
          intro r hr
          simp only [List.mem_map] at hr
          obtain ⟨k, _, rfl⟩ := hr
          rw [List.all_eq_true] at hgr ⊢
          exact fun y hy => hgr y (List.mem_of_mem_drop (List.mem_of_mem_take hy))
        · simp only [List.getElem?_map, Option.map_eq_some_iff] at hk
          obtain ⟨k', hk', rfl⟩ := hk
          have hkl : k < e' := by
            rcases Nat.lt_or_ge k e' with hl | hl
            · exact hl
            · rw [List.getElem?_eq_none (by simpa using hl)] at hk'
              simp at hk'
          rw [List.getElem?_range hkl] at hk'
          injection hk' with hk'
          subst hk'
          have hroom : k * i.size + i.size ≤ cs.length := row_room (rs := Array.replicate cs.length undef) (by simpa using hnc.symm) (Nat.le_refl _) hkl |> fun h => by simpa using h
          refine ⟨by simp; omega, RepF.of_get fun j c hj => ?_⟩
          rw [List.getElem?_take] at hj
          split at hj
          · rw [List.getElem?_drop] at hj
            have := hF.get hj
            rwa [← Nat.add_assoc] at this
          · simp at hj
    · simp at hs
  · rename_i b ep l e' es h1 h2
    split at hs
    · rename_i z rows hra
      split at hs
      · rename_i hc
        obtain ⟨rfl, rfl, hle, hen⟩ := hc
        injection hs with hs
        simp only [Prod.mk.injEq] at hs
        obtain ⟨rfl, rfl⟩ := hs
        rw [es] at hrx
        obtain ⟨ty, eq, hpos, L, rs, hL, hLe, hLs, hcp, hw, hss, hB⟩ := R.rowAt hra
        simp only [RepV] at hrx
        obtain ⟨hb', a', hr, hLx⟩ := hrx
        obtain ⟨k1, k2⟩ := hLx L hL
        have ha := k2 hLe.symm
        simp only [Nat.zero_mul, Nat.zero_add] at ha
        subst ha
        have hb := bounds_run (P := P) (w := w) (b := false) (len := rows.length) (cap := rows.length) (boundO_OB hgl he hl h1) (boundO_OB hgl he hh h2) (.inl ⟨rfl, rfl⟩ : OB rows.length none rows.length) (by simp) hle hen (Nat.le_refl _)
        refine OpOk.quiet (s := Instr.sliceAt t (a.eval x) (lo.map a.eval) (hi.map a.eval) none) (r := .slice (some (if rows.length = l then ⟨L.blk, 0, none⟩ else ⟨L.blk, l * i.size, none⟩)) (e' - l) (rows.length - l)) R (by simp only [execOp, hop, Option.map_none]) ?_ ?_
        · rw [hr]
          by_cases hq : rows.length = l
          · rw [if_pos hq]
            simp [Instr.sliceAt, run_underlying ht w, Instr.sureAddr, hb, sizeO_run hsz w, add_none]
            intro hq'
            exact absurd hq hq'
          · rw [if_neg hq]
            simp [Instr.sliceAt, run_underlying ht w, Instr.sureAddr, hb, sizeO_run hsz w, add_none]
            intro hq'
            exact absurd (by omega) hq
        · simp only [RepV]
          refine ⟨hb', _, _, rfl, fun L' hL' => ?_⟩
          rw [hL] at hL'
          injection hL' with hL'
          subst hL'
          exact ⟨k1, fun _ => ⟨by omega, by omega, fun h0 => by rw [if_neg (by omega), hLs]⟩⟩
      · simp at hs
    · simp at hs
  · simp at hs

theorem ok_minmax {mx : Bool} {ts : Array TypeId} {xs : Array Operand} {ys : List Opd} (hop : o.op = .call { callee := .builtin (if mx then .max else .min), args := xs, argTypes := ts }) (hgl : GlobOk G gl) (he : RepEnv G en a.tmps) (R : Rel G h w)
    (hx : opds gl xs.toList = some ys) (hs : step base en h (.mnmx mx ys) = some (v, h')) : OpOk P o a G h' w v := by
  have hr := opds_rep hgl he hx
  simp only [step] at hs
  split at hs
  · rename_i y r ey
    obtain ⟨h1, h2⟩ := some_pair hs
    simp only at h1 h2
    subst h2
    rw [ey] at hr
    simp only [RepL] at hr
    obtain ⟨q, rest, eq, hq, hrest⟩ := hr
    obtain ⟨z, h3, h4⟩ := minmax_run (P := P) (w := w) mx ts 0 hq hrest h1
    refine ⟨z, w, G, .inl ?_, Ext.refl G, R, h4, Below.refl _ _⟩
    have hargs : (xs.map a.eval).toList = q :: rest := by simpa using eq
    cases mx
    · simp only [Bool.false_eq_true, if_false] at hop h3
      simp only [execOp, hop, resolve, Sem.run_bind, Sem.run_pure, Result.andThen_ok, invoke, builtin, Builtin.min_, hargs, h3]
    · simp only [if_true] at hop h3
      simp only [execOp, hop, resolve, Sem.run_bind, Sem.run_pure, Result.andThen_ok, invoke, builtin, Builtin.max_, hargs, h3]
  · simp at hs

theorem step_run (hgl : GlobOk G gl) (he : RepEnv G en a.tmps) (R : Rel G h w) {ao : AOp} (hc : compOp P gl o.op = some ao) (hs : step base en h ao = some (v, h')) : OpOk P o a G h' w v := by
  cases hop : o.op <;> rw [hop] at hc <;> simp only [compOp, reduceCtorEq] at hc
  case move x =>
    simp only [Option.map_eq_some_iff] at hc
    obtain ⟨y, hy, rfl⟩ := hc
    simp only [step, Option.some.injEq, Prod.mk.injEq] at hs
    obtain ⟨rfl, rfl⟩ := hs
    exact ok_move (.inl hop) hgl he R hy
  case assign x =>
    simp only [Option.map_eq_some_iff] at hc
    obtain ⟨y, hy, rfl⟩ := hc
    simp only [step, Option.some.injEq, Prod.mk.injEq] at hs
    obtain ⟨rfl, rfl⟩ := hs
    exact ok_move (.inr hop) hgl he R hy
  case pick c x y =>
    simp only [Option.bind_eq_some_iff, Option.map_eq_some_iff] at hc
    obtain ⟨c', h1, x', h2, y', h3, rfl⟩ := hc
    simp only [step] at hs
    split at hs
    · rename_i t ht
      simp only [Option.some.injEq, Prod.mk.injEq] at hs
      obtain ⟨rfl, rfl⟩ := hs
      exact ok_pick hop hgl he R h1 h2 h3 ht
    · simp at hs
  case alloc t =>
    simp only [Option.map_eq_some_iff] at hc
    obtain ⟨zs, hz, hc⟩ := hc
    split at hc
    · subst hc
      exact ok_allocA hop R hz hs
    · subst hc
      simp only [step, Option.some.injEq, Prod.mk.injEq] at hs
      obtain ⟨rfl, rfl⟩ := hs
      exact ok_alloc hop R hz
  case box t x =>
    simp only [Option.map_eq_some_iff] at hc
    obtain ⟨y, hy, hc⟩ := hc
    split at hc
    · subst hc
      exact ok_boxF hop hgl he R hy hs
    split at hc
    · subst hc
      exact ok_boxA hop hgl he R hy hs
    · subst hc
      simp only [step] at hs
      split at hs
      · rename_i hone
        simp only [Option.some.injEq, Prod.mk.injEq] at hs
        obtain ⟨rfl, rfl⟩ := hs
        exact ok_box hop hgl he R hy hone
      · simp at hs
  case build t ps =>
    simp only [Option.bind_eq_some_iff] at hc
    obtain ⟨d, hd, hc⟩ := hc
    split at hc
    · rename_i fs
      simp only [Option.bind_eq_some_iff, Option.map_eq_some_iff] at hc
      obtain ⟨zs, hz, pl, hp, qs, hq, rfl⟩ := hc
      simp only [step, Option.map_eq_some_iff, Prod.mk.injEq] at hs
      obtain ⟨cs, hf, rfl, rfl⟩ := hs
      exact ok_build hop hgl he R hd hz (.inl ⟨fs, pl, rfl, hp, hq⟩) hf
    · rename_i n e
      simp only [Option.bind_eq_some_iff, Option.map_eq_some_iff] at hc
      obtain ⟨zs, hz, s, hs', qs, hq, rfl⟩ := hc
      simp only [step, Option.map_eq_some_iff, Prod.mk.injEq] at hs
      obtain ⟨cs, hf, rfl, rfl⟩ := hs
      exact ok_build hop hgl he R hd hz (.inr ⟨n, e, s, rfl, hs', hq⟩) hf
    · simp at hc
  case makeMap t r =>
    cases r with
    | none =>
      simp only [Option.some.injEq] at hc
      subst hc
      simp only [step, Option.some.injEq, Prod.mk.injEq] at hs
      obtain ⟨rfl, rfl⟩ := hs
      exact ok_makeMap hop R
    | some r => simp at hc
  case lookup t m k ok =>
    simp only [Option.bind_eq_some_iff] at hc
    obtain ⟨d, hd, hc⟩ := hc
    split at hc
    · simp only [Option.bind_eq_some_iff, Option.map_eq_some_iff] at hc
      obtain ⟨kd, hkd, z, hz, m', hm, k', hk, rfl⟩ := hc
      exact ok_lookup hop hgl he R hd hkd hz hm hk hs
    · simp at hc
  case mapUpdate t m k x =>
    simp only [Option.bind_eq_some_iff] at hc
    obtain ⟨d, hd, hc⟩ := hc
    split at hc
    · simp only [Option.bind_eq_some_iff, Option.map_eq_some_iff] at hc
      obtain ⟨kd, hkd, m', hm, k', hk, x', hx, rfl⟩ := hc
      exact ok_mapUpdate (.inl hop) hgl he R hd hkd hm hk hx hs
    · simp at hc
  case insert t m k x =>
    simp only [Option.bind_eq_some_iff] at hc
    obtain ⟨d, hd, hc⟩ := hc
    split at hc
    · simp only [Option.bind_eq_some_iff, Option.map_eq_some_iff] at hc
      obtain ⟨kd, hkd, m', hm, k', hk, x', hx, rfl⟩ := hc
      exact ok_mapUpdate (.inr hop) hgl he R hd hkd hm hk hx hs
    · simp at hc
  case buildSlice t n ps =>
    simp only [Option.bind_eq_some_iff] at hc
    obtain ⟨d, hd, hc⟩ := hc
    split at hc
    · rename_i e
      simp only [Option.bind_eq_some_iff] at hc
      obtain ⟨sz, hg, zs, hz, hc⟩ := hc
      split at hc
      · rename_i hn
        simp only [Option.map_eq_some_iff] at hc
        obtain ⟨qs, hq, rfl⟩ := hc
        exact ok_bslice hop hgl he R hd hg hz hn hq hs
      · simp at hc
    · simp at hc
  case load t x =>
    simp only [Option.bind_eq_some_iff, Option.map_eq_some_iff] at hc
    obtain ⟨n, hn, y, hy, rfl⟩ := hc
    simp only [step] at hs
    obtain ⟨h1, h2⟩ := some_pair hs
    simp only at h1 h2
    subst h2
    exact ok_load hop hgl he R hn hy h1
  case store t x y =>
    simp only [Option.bind_eq_some_iff, Option.map_eq_some_iff] at hc
    obtain ⟨n, hn, x', hx, y', hy, rfl⟩ := hc
    simp only [step, Option.map_eq_some_iff, Prod.mk.injEq] at hs
    obtain ⟨h2, h1, rfl, rfl⟩ := hs
    exact ok_store hop hgl he R hn hx hy h1
  case nilCheck x =>
    simp only [Option.map_eq_some_iff] at hc
    obtain ⟨y, hy, rfl⟩ := hc
    obtain ⟨h1, h2, rfl⟩ := nilCheck_run (P := P) (w := w) (ρ := a.eval) hop (opd_rep hgl he hy) hs
    exact ⟨_, w, G, .inl h1, Ext.refl G, R, h2, Below.refl _ _⟩
  case binOp op t x y ty =>
    split at hc
    · rename_i fs ht
      simp only [Option.bind_eq_some_iff] at hc
      obtain ⟨ls, hl, x', hx, y', hy, hc⟩ := hc
      have fin : ∀ neg, op = (if neg then .neq else .eql) → ao = .eqAgg neg ls x' y' → OpOk P o a G h' w v := by
        rintro neg hopn rfl
        have hrx := opd_rep hgl he hx
        have hry := opd_rep hgl he hy
        simp only [step] at hs
        split at hs
        · rename_i xs ys e1 e2
          simp only [Option.map_eq_some_iff, Prod.mk.injEq] at hs
          obtain ⟨res, h1, rfl, rfl⟩ := hs
          rw [e1] at hrx
          rw [e2] at hry
          have h3 := eqAgg_run (P := P) (w := w) (neg := neg) (ox := x) (oy := y) ht hl hrx hry h1
          rw [← hopn] at h3
          exact OpOk.quiet R (by simp only [execOp, hop]) h3 (RepV.bool _ _)
        · simp at hs
      split at hc
      · injection hc with hc; exact fin false rfl hc.symm
      · injection hc with hc; exact fin true rfl hc.symm
      · simp at hc
    · exact ok_bin hop hgl he R hc hs
  case unOp op t x =>
    simp only [Option.map_eq_some_iff] at hc
    obtain ⟨y, hy, rfl⟩ := hc
    simp only [step] at hs
    obtain ⟨h1, h2⟩ := some_pair hs
    simp only at h1 h2
    subst h2
    obtain ⟨r, h3, h4⟩ := un_run (P := P) (w := w) (opd_rep hgl he hy) h1
    exact OpOk.quiet R (by simp only [execOp, hop]) h3 h4
  case convert s d x => exact ok_conv hop hgl he R hc hs
  case makeInterface t x =>
    simp only [Option.bind_eq_some_iff] at hc
    obtain ⟨d, hd, hc⟩ := hc
    have fin : ∀ y, opd gl x = some y → ao = .makeIface t y → (∀ ms, d ≠ .interface ms) → OpOk P o a G h' w v := by
      rintro y hy rfl hni
      simp only [step] at hs
      split at hs
      · simp only [Option.some.injEq, Prod.mk.injEq] at hs
        obtain ⟨rfl, rfl⟩ := hs
        refine OpOk.quiet (s := Instr.makeInterface t (a.eval x)) (r := .iface t (a.eval x)) R (by simp only [execOp, hop]) ?_ (by simp only [RepV]; exact ⟨_, rfl, opd_rep hgl he hy⟩)
        simp only [Instr.makeInterface, Sem.run_bind, run_underlying hd w, Result.andThen_ok]
        cases d <;> first | rfl | exact absurd rfl (hni _)
      · simp at hs
    split at hc
    · simp at hc
    · rename_i hni
      simp only [Option.map_eq_some_iff] at hc
      obtain ⟨y, hy, rfl⟩ := hc
      exact fin y hy rfl hni
  case makeFunc f x c =>
    simp only [Option.bind_eq_some_iff, Option.map_eq_some_iff] at hc
    obtain ⟨x', hx, c', hcc, rfl⟩ := hc
    simp only [step, Option.some.injEq, Prod.mk.injEq] at hs
    obtain ⟨rfl, rfl⟩ := hs
    refine OpOk.quiet (s := Instr.makeFunc f (x.map a.eval) (c.map a.eval)) (r := .func f (x.map a.eval) (c.map a.eval)) R (by simp only [execOp, hop]) rfl ?_
    simp only [RepV]
    exact ⟨_, _, rfl, by simpa using opds_rep hgl he hx, by simpa using opds_rep hgl he hcc⟩
  case makeSlice t l c =>
    simp only [Option.bind_eq_some_iff] at hc
    obtain ⟨d, hd, hc⟩ := hc
    split at hc
    · rename_i e
      simp only [Option.bind_eq_some_iff] at hc
      obtain ⟨sz, hg, zs, hz, hc⟩ := hc
      split at hc
      · simp only [Option.bind_eq_some_iff, Option.map_eq_some_iff] at hc
        obtain ⟨l', hl, c', hcc, rfl⟩ := hc
        exact ok_makeSlice hop hgl he R hd hg hz hl hcc hs
      · simp at hc
    · simp at hc
  case slice t x lo hi mx =>
    simp only [Option.bind_eq_some_iff] at hc
    obtain ⟨d, hd, x', hx, lo', hl, hi', hh, mx', hm, hc⟩ := hc
    have hmn : mx'.isNone = true → mx = none := by
      intro e
      cases mx with
      | none => rfl
      | some m =>
        simp only [opdO, Option.map_eq_some_iff] at hm
        obtain ⟨q, _, rfl⟩ := hm
        simp at e
    split at hc
    · split at hc
      · rename_i e
        have := hmn e
        subst this
        injection hc with hc
        subst hc
        exact ok_sliceStr hop hgl he R hd hx hl hh hs
      · simp at hc
    · simp only [Option.map_eq_some_iff] at hc
      obtain ⟨sz, hg, rfl⟩ := hc
      exact ok_slice hop hgl he R hd hg hx hl hh hm hs
    · split at hc
      · rename_i e
        have := hmn e
        subst this
        simp only [Option.map_eq_some_iff] at hc
        obtain ⟨sz, hg, rfl⟩ := hc
        exact ok_sliceArr hop hgl he R hd hg hx hl hh hs
      · simp at hc
    · simp at hc
  case fieldAddr t x i =>
    simp only [Option.bind_eq_some_iff] at hc
    obtain ⟨d, hd, hc⟩ := hc
    split at hc
    · rename_i fs
      simp only [Option.bind_eq_some_iff] at hc
      obtain ⟨f, hf, s, hs', hc⟩ := hc
      split at hc
      · rename_i hpos
        simp only [Option.map_eq_some_iff] at hc
        obtain ⟨y, hy, rfl⟩ := hc
        simp only [step] at hs
        obtain ⟨h1, h2⟩ := some_pair hs
        simp only at h1 h2
        subst h2
        obtain ⟨r, h3, h4⟩ := fieldAddr_run (P := P) (w := w) hd hf hs' hpos (opd_rep hgl he hy) h1
        exact OpOk.quiet R (by simp only [execOp, hop]) h3 h4
      · simp at hc
    · simp at hc
  case field t x i =>
    simp only [Option.bind_eq_some_iff] at hc
    obtain ⟨d, hd, hc⟩ := hc
    split at hc
    · rename_i fs
      simp only [Option.bind_eq_some_iff, Option.map_eq_some_iff] at hc
      obtain ⟨f, hf, n, hn, y, hy, rfl⟩ := hc
      have hrx := opd_rep hgl he hy
      simp only [step] at hs
      split at hs
      · rename_i cs e
        obtain ⟨h1, h2⟩ := some_pair hs
        simp only at h1 h2
        subst h2
        rw [e] at hrx
        obtain ⟨r, h3, h4⟩ := field_run (P := P) (w := w) hd hf hn hrx h1
        exact OpOk.quiet R (by simp only [execOp, hop]) h3 h4
      · simp at hs
    · simp at hc
  case indexAddr t x i =>
    simp only [Option.bind_eq_some_iff] at hc
    obtain ⟨d, hd, x', hx, i', hi, hc⟩ := hc
    split at hc
    · rename_i e
      simp only [Option.map_eq_some_iff] at hc
      obtain ⟨s, hs', rfl⟩ := hc
      simp only [step, Option.bind_eq_some_iff] at hs
      obtain ⟨k, hk, hs⟩ := hs
      obtain ⟨h1, h2⟩ := some_pair hs
      simp only at h1 h2
      subst h2
      obtain ⟨r, h3, h4⟩ := indexS_run (P := P) R hd hs' (opd_rep hgl he hx) (opd_rep hgl he hi) hk h1
      exact OpOk.quiet R (by simp only [execOp, hop]) h3 h4
    · rename_i n e
      simp only [Option.map_eq_some_iff] at hc
      obtain ⟨s, hs', rfl⟩ := hc
      simp only [step, Option.bind_eq_some_iff] at hs
      obtain ⟨k, hk, hs⟩ := hs
      split at hs
      · rename_i hlt
        obtain ⟨h1, h2⟩ := some_pair hs
        simp only at h1 h2
        subst h2
        obtain ⟨r, h3, h4⟩ := indexA_run (P := P) (w := w) hd hs' (opd_rep hgl he hx) (opd_rep hgl he hi) hk hlt h1
        exact OpOk.quiet R (by simp only [execOp, hop]) h3 h4
      · simp at hs
    · simp at hc
  case index t x i =>
    simp only [Option.bind_eq_some_iff] at hc
    obtain ⟨d, hd, x', hx, i', hi, hc⟩ := hc
    split at hc
    · rename_i n e
      simp only [Option.bind_eq_some_iff, Option.map_eq_some_iff] at hc
      obtain ⟨m, hm, s, hs', rfl⟩ := hc
      simp only [step, Option.bind_eq_some_iff] at hs
      obtain ⟨k, hk, hs⟩ := hs
      have hrx := opd_rep hgl he hx
      split at hs
      · rename_i hlt
        split at hs
        · rename_i cs ec
          obtain ⟨h1, h2⟩ := some_pair hs
          simp only at h1 h2
          subst h2
          rw [ec] at hrx
          obtain ⟨r, h3, h4⟩ := idxArr_run (P := P) (w := w) hd hm hs' hrx (opd_rep hgl he hi) hk hlt h1
          exact OpOk.quiet R (by simp only [execOp, hop]) h3 h4
        · simp at hs
      · simp at hs
    · injection hc with hc
      subst hc
      simp only [step, Option.bind_eq_some_iff] at hs
      obtain ⟨k, hk, hs⟩ := hs
      have hrx := opd_rep hgl he hx
      split at hs
      · rename_i s es
        simp only [Option.map_eq_some_iff, Prod.mk.injEq] at hs
        obtain ⟨c, h1, rfl, rfl⟩ := hs
        rw [es] at hrx
        have h3 := idxStr_run (P := P) (w := w) hd hrx (opd_rep hgl he hi) hk h1
        exact OpOk.quiet R (by simp only [execOp, hop]) h3 (RepV.int _ _ _)
      · simp at hs
    · simp at hc
  case extract x i =>
    simp only [Option.map_eq_some_iff] at hc
    obtain ⟨y, hy, rfl⟩ := hc
    have hrx := opd_rep hgl he hy
    simp only [step] at hs
    split at hs
    · rename_i vs es
      obtain ⟨h1, h2⟩ := some_pair hs
      simp only at h1 h2
      subst h2
      rw [es] at hrx
      simp only [RepV] at hrx
      obtain ⟨rs, hr, hl⟩ := hrx
      obtain ⟨r, h3, h4⟩ := hl.get h1
      refine OpOk.quiet (s := Instr.extract (a.eval x) i) R (by simp only [execOp, hop]) ?_ h4
      rw [hr]
      rw [Array.getElem?_toList] at h3
      simp [Instr.extract, h3]
    · simp at hs
  case call c =>
    obtain ⟨callee, args, ts⟩ := c
    simp only [compCall] at hc
    split at hc
    · simp only [Option.bind_eq_some_iff, Option.map_eq_some_iff] at hc
      obtain ⟨f, hf, xs, hx, rfl⟩ := hc
      simp [step] at hs
    · rename_i b
      have hres : execOp a.eval o = builtin b ts o.type (args.map fun | .const _ => true | _ => false) (args.map a.eval) := by
        simp only [execOp, hop, resolve]
        rfl
      unfold compBuiltin at hc
      split at hc
      · rename_i t x e1 e2
        have ets : ts = #[t] := by rw [← Array.toArray_toList (xs := ts), e1]
        have exs : args = #[x] := by rw [← Array.toArray_toList (xs := args), e2]
        subst ets; subst exs
        simp only [Option.bind_eq_some_iff] at hc
        obtain ⟨d, hd, hc⟩ := hc
        have hgo : ∀ {n : Nat}, (Builtin.len_ #[t] o.type #[a.eval x]).run P w = .ok (goInt n) w → v = .int n → h' = h → OpOk P o a G h' w v := by
          rintro n h1 rfl rfl
          refine ⟨goInt n, w, G, .inl ?_, Ext.refl G, R, RepV.int _ _ _, Below.refl _ _⟩
          rw [hres]
          simp only [builtin, List.map_toArray, List.map_cons, List.map_nil, Sem.run_bind, h1, Result.andThen_ok]
          rfl
        split at hc
        · simp only [Option.map_eq_some_iff] at hc
          obtain ⟨y, hy, rfl⟩ := hc
          have hrx := opd_rep hgl he hy
          simp only [step] at hs
          split at hs
          · rename_i s es
            simp only [Option.some.injEq, Prod.mk.injEq] at hs
            rw [es] at hrx
            refine hgo (n := s.size) ?_ hs.1.symm hs.2.symm
            rw [hrx.sc_inv]
            simp [Builtin.len_, run_underlying hd w]
          · simp at hs
        · simp only [Option.map_eq_some_iff] at hc
          obtain ⟨y, hy, rfl⟩ := hc
          have hrx := opd_rep hgl he hy
          simp only [step] at hs
          obtain ⟨h1, h2⟩ : ∃ n : Nat, slcLen (y.get en) = some n ∧ v = .int n ∧ h' = h := by
            simp only [Option.map_eq_some_iff, Prod.mk.injEq] at hs
            obtain ⟨n, h1, h2, h3⟩ := hs
            exact ⟨n, h1, h2.symm, h3.symm⟩
          rename_i e0 n
          have hsl : ∃ b c, a.eval x = .slice b h1 c := by
            obtain ⟨h2, _⟩ := h2
            unfold slcLen at h2
            split at h2
            · rename_i ee
              rw [ee] at hrx
              injection h2 with h2
              subst h2
              simp only [RepV] at hrx
              obtain ⟨b, c, hr, _⟩ := hrx
              exact ⟨b, c, hr⟩
            · rename_i ee
              rw [ee] at hrx
              injection h2 with h2
              subst h2
              simp only [RepV] at hrx
              obtain ⟨_, b, c, hr, _⟩ := hrx
              exact ⟨_, c, hr⟩
            · rename_i ee
              rw [ee] at hrx
              injection h2 with h2
              subst h2
              exact ⟨none, 0, hrx.sc_inv⟩
            · simp at h2
          obtain ⟨b, c, hr⟩ := hsl
          refine hgo (n := h1) ?_ h2.2.1 h2.2.2
          rw [hr]
          simp [Builtin.len_, run_underlying hd w]
        · rename_i n e
          injection hc with hc
          subst hc
          simp only [step, Option.some.injEq, Prod.mk.injEq] at hs
          refine hgo (n := n) ?_ hs.1.symm hs.2.symm
          simp [Builtin.len_, run_underlying hd w]
        · simp only [Option.map_eq_some_iff] at hc
          obtain ⟨y, hy, rfl⟩ := hc
          simp only [step, Option.map_eq_some_iff, Prod.mk.injEq] at hs
          obtain ⟨n, h1, h2, h3⟩ := hs
          exact hgo (n := n) (lenM_run R hd (opd_rep hgl he hy) h1) h2.symm h3.symm
        · simp at hc
      · rename_i t u s x e1 e2
        have ets : ts = #[t, u] := by rw [← Array.toArray_toList (xs := ts), e1]
        have exs : args = #[s, x] := by rw [← Array.toArray_toList (xs := args), e2]
        subst ets; subst exs
        simp only [Option.bind_eq_some_iff] at hc
        obtain ⟨d, hd, hc⟩ := hc
        split at hc
        · rename_i e
          simp only [Option.bind_eq_some_iff] at hc
          obtain ⟨sz, hg, du, hdu, hc⟩ := hc
          have fin : (P.underlying u = some .string ∨ ∃ e', P.underlying u = some (.slice e')) → ∀ s' x', opd gl s = some s' → opd gl x = some x' → ao = .append e sz s' x' → OpOk P o a G h' w v := by
            rintro hu s' x' hs' hx' rfl
            simp only [step, Option.bind_eq_some_iff] at hs
            obtain ⟨new, h1, h2⟩ := hs
            obtain ⟨r, w', G', h3, h4, h5, h6, h7⟩ := append_run (P := P) (ty := o.type) R hd hu hg (opd_rep hgl he hs') (opd_rep hgl he hx') h1 h2
            refine ⟨r, w', G', .inl ?_, h4, h5, h6, h7⟩
            rw [hres]
            simp only [builtin, List.map_toArray, List.map_cons, List.map_nil, Sem.run_bind, h3, Result.andThen_ok]
            rfl
          split at hc
          · simp only [Option.bind_eq_some_iff, Option.map_eq_some_iff] at hc
            obtain ⟨s', hs', x', hx', rfl⟩ := hc
            exact fin (.inr ⟨_, hdu⟩) s' x' hs' hx' rfl
          · simp only [Option.bind_eq_some_iff, Option.map_eq_some_iff] at hc
            obtain ⟨s', hs', x', hx', rfl⟩ := hc
            exact fin (.inl hdu) s' x' hs' hx' rfl
          · simp at hc
        · simp at hc
      · rename_i t x e1 e2
        have ets : ts = #[t] := by rw [← Array.toArray_toList (xs := ts), e1]
        have exs : args = #[x] := by rw [← Array.toArray_toList (xs := args), e2]
        subst ets; subst exs
        simp only [Option.bind_eq_some_iff] at hc
        obtain ⟨d, hd, hc⟩ := hc
        split at hc
        · simp only [Option.map_eq_some_iff] at hc
          obtain ⟨y, hy, rfl⟩ := hc
          simp only [step, Option.map_eq_some_iff, Prod.mk.injEq] at hs
          obtain ⟨n, h1, rfl, rfl⟩ := hs
          have h3 := cap_run (P := P) (w := w) (ty := o.type) hd (opd_rep hgl he hy) h1
          refine ⟨_, w, G, .inl ?_, Ext.refl G, R, RepV.int _ _ _, Below.refl _ _⟩
          rw [hres]
          simp only [builtin, List.map_toArray, List.map_cons, List.map_nil, Sem.run_bind, h3, Result.andThen_ok]
          rfl
        · simp at hc
      · rename_i t u s x e1 e2
        have ets : ts = #[t, u] := by rw [← Array.toArray_toList (xs := ts), e1]
        have exs : args = #[s, x] := by rw [← Array.toArray_toList (xs := args), e2]
        subst ets; subst exs
        simp only [Option.bind_eq_some_iff] at hc
        obtain ⟨d, hd, hc⟩ := hc
        split at hc
        · rename_i e
          simp only [Option.bind_eq_some_iff] at hc
          obtain ⟨sz, hg, du, hdu, hc⟩ := hc
          have fin : ∀ s' x', opd gl s = some s' → opd gl x = some x' → ao = .copy sz s' x' → OpOk P o a G h' w v := by
            rintro s' x' hs' hx' rfl
            simp only [step, Option.bind_eq_some_iff, Option.map_eq_some_iff, Prod.mk.injEq] at hs
            obtain ⟨new, h1, ⟨k, h2⟩, h3, rfl, rfl⟩ := hs
            obtain ⟨w', h4, h5, h6⟩ := copy_run (P := P) (u := u) (ty := o.type) R hd hg (opd_rep hgl he hs') (opd_rep hgl he hx') h1 h3
            refine ⟨goInt k, w', G, .inl ?_, Ext.refl G, h5, RepV.int _ _ _, h6⟩
            rw [hres]
            simp only [builtin, List.map_toArray, List.map_cons, List.map_nil, Sem.run_bind, h4, Result.andThen_ok]
            rfl
          split at hc
          · simp only [Option.bind_eq_some_iff, Option.map_eq_some_iff] at hc
            obtain ⟨s', hs', x', hx', rfl⟩ := hc
            exact fin s' x' hs' hx' rfl
          · simp only [Option.bind_eq_some_iff, Option.map_eq_some_iff] at hc
            obtain ⟨s', hs', x', hx', rfl⟩ := hc
            exact fin s' x' hs' hx' rfl
          · simp at hc
        · simp at hc
      · rename_i x e2
        have exs : args = #[x] := by rw [← Array.toArray_toList (xs := args), e2]
        subst exs
        simp only [Option.map_eq_some_iff] at hc
        obtain ⟨y, hy, rfl⟩ := hc
        simp only [step] at hs
        obtain ⟨h1, h2⟩ := some_pair hs
        simp only at h1 h2
        subst h2
        obtain ⟨r, h3, h4⟩ := sliceData_run (P := P) (ts := ts) (ty := o.type) R (opd_rep hgl he hy) h1
        refine ⟨r, w, G, .inl ?_, Ext.refl G, R, h4, Below.refl _ _⟩
        rw [hres]
        simp only [builtin, List.map_toArray, List.map_cons, List.map_nil, Sem.run_bind, h3, Result.andThen_ok]
        rfl
      · rename_i pt it x n e1 e2
        have ets : ts = #[pt, it] := by rw [← Array.toArray_toList (xs := ts), e1]
        have exs : args = #[x, n] := by rw [← Array.toArray_toList (xs := args), e2]
        subst ets; subst exs
        simp only [Option.bind_eq_some_iff] at hc
        obtain ⟨d, hd, hc⟩ := hc
        split at hc
        · split at hc
          · rename_i hcell
            simp only [Option.bind_eq_some_iff, Option.map_eq_some_iff] at hc
            obtain ⟨x', hx, n', hn, rfl⟩ := hc
            simp only [step] at hs
            split at hs
            · rename_i k ek
              split at hs
              · rename_i h0
                have hrn := opd_rep hgl he hn
                rw [ek] at hrn
                have hrn := hrn.sc_inv
                obtain ⟨r, w', h3, h4, h5, h6⟩ := strData_run (P := P) (it := it) (ty := o.type) R hd hcell (opd_rep hgl he hx) hs
                refine ⟨r, w', G, .inl ?_, Ext.refl G, h4, h5, h6⟩
                rw [hres]
                have hk : (Value.int .i64 (k.toNat : Int)) = .int .i64 k := by rw [Int.toNat_of_nonneg h0]
                rw [hk] at h3
                simp only [builtin, List.map_toArray, List.map_cons, List.map_nil, Sem.run_bind, hrn, h3, Result.andThen_ok]
                rfl
              · simp at hs
            · simp at hs
          · simp at hc
        · simp at hc
      · simp only [Option.map_eq_some_iff] at hc
        obtain ⟨ys, hy, rfl⟩ := hc
        exact ok_minmax (mx := true) hop hgl he R hy hs
      · simp only [Option.map_eq_some_iff] at hc
        obtain ⟨ys, hy, rfl⟩ := hc
        exact ok_minmax (mx := false) hop hgl he R hy hs
      · simp at hc
    · simp at hc

end
end Go.Am
end
section
/- Am: regions, control, calls: the machine does what the abstract run does. -/
namespace Go.Am
open Go.RowKit (Below)

/-- What a call of a function number comes to. -/
def CallsF (P : Program) (f : FuncId) (args : Array Value) (w : World) (R : Value → World → Prop) : Prop :=
  match (callFunc f args).run P w with
  | .ok (.value v) w' => R v w'
  | .ok (.enter g as) w' => Calls P g as w' fun
      | .returned v, w'' => R v w''
      | _, _ => False
  | .ok (.row row as) w' => Rows P row as w' R
  | _ => False

/-- Abstract memory may be cut at 'base': nothing below leads above. -/
def HeapOk (base : Nat) (h : Heap) : Prop :=
  ∀ b, b < base → (∀ t cs, h[b]? = some (.box t cs) → refsLts base cs = true) ∧ (∀ t sz e rows, h[b]? = some (.row t sz e rows) → ∀ r ∈ rows, refsLts base r = true) ∧ (∀ es, h[b]? = some (.mmap es) → ∀ e ∈ es, refsLt base e.2 = true)

/-- What a call does to abstract memory. -/
def Grow (base : Nat) (h h' : Heap) : Prop := h.length ≤ h'.length ∧ ∀ n, n ≤ base → n ≤ h.length → HeapOk n h → HeapOk n h'

theorem Grow.refl (base : Nat) (h : Heap) : Grow base h h := ⟨Nat.le_refl _, fun _ _ _ h => h⟩
theorem Grow.trans {base : Nat} {a b c : Heap} (h : Grow base a b) (k : Grow base b c) : Grow base a c :=
  ⟨Nat.le_trans h.1 k.1, fun n h1 h2 ho => k.2 n h1 (Nat.le_trans h2 h.1) (h.2 n h1 h2 ho)⟩

/-- What the machine has come to, behind an abstract step from G, w to h'. -/
structure Reach (G : Tie) (w : World) (h' : Heap) (w' : World) (G' : Tie) : Prop where
  ext : Ext G G'
  rel : Rel G' h' w'
  below : Below G.b0 w w'

theorem Reach.refl {G : Tie} {h : Heap} {w : World} (R : Rel G h w) : Reach G w h w G := ⟨Ext.refl G, R, Below.refl _ _⟩
theorem Reach.trans {G G' G'' : Tie} {h h' : Heap} {w w' w'' : World} (a : Reach G w h w' G') (b : Reach G' w' h' w'' G'') : Reach G w h' w'' G'' :=
  ⟨a.ext.trans b.ext, b.rel, a.below.trans (by have := b.below; rwa [a.ext.b0] at this)⟩

/-- The calls that an abstract run may take. -/
structure CallOk (P : Program) (gl : Nat → Option (List V)) (call : CallF) : Prop where
  grow : ∀ base f args h r h', call base f args h = some (r, h') → base ≤ h.length → Grow base h h'
  runs : ∀ base f args h r h', call base f args h = some (r, h') → base ≤ h.length → ∀ G w vals, GlobOk G gl → Rel G h w → RepL G args vals.toList →
    CallsF P f vals w fun rv w' => ∃ G', Reach G w h' w' G' ∧ RepV G' r rv

/-! ### Memory that grows -/

theorem refsLts_all {n : Nat} : ∀ {l : List V}, refsLts n l = true ↔ ∀ v ∈ l, refsLt n v = true
  | [] => by simp [refsLts]
  | v :: r => by simp [refsLts, refsLts_all]

mutual
theorem refsLt_mono {n m : Nat} (h : n ≤ m) : ∀ {v : V}, refsLt n v = true → refsLt m v = true
  | .undef, _ => by simp [refsLt]
  | .opq, _ => by simp [refsLt]
  | .sc _, _ => by simp [refsLt]
  | .slc .., _ => by simp [refsLt]
  | .eptr .., _ => by simp [refsLt]
  | .ptr .., hv => by simp [refsLt] at hv ⊢; omega
  | .hsl .., hv => by simp [refsLt] at hv ⊢; omega
  | .rptr .., hv => by simp [refsLt] at hv ⊢; omega
  | .mp _, hv => by simp [refsLt] at hv ⊢; omega
  | .fn f a c, hv => by
    simp only [refsLt, Bool.and_eq_true] at hv ⊢
    exact ⟨refsLts_mono h hv.1, refsLts_mono h hv.2⟩
  | .agg cs, hv => by
    simp only [refsLt] at hv ⊢
    exact refsLts_mono h hv
  | .tup cs, hv => by
    simp only [refsLt] at hv ⊢
    exact refsLts_mono h hv
  | .ifc t v, hv => by
    simp only [refsLt] at hv ⊢
    exact refsLt_mono h hv
theorem refsLts_mono {n m : Nat} (h : n ≤ m) : ∀ {l : List V}, refsLts n l = true → refsLts m l = true
  | [], _ => by simp [refsLts]
  | v :: r, hv => by
    simp only [refsLts, Bool.and_eq_true] at hv ⊢
    exact ⟨refsLt_mono h hv.1, refsLts_mono h hv.2⟩
end

theorem HeapOk.app {n : Nat} {h : Heap} (ho : HeapOk n h) (hn : n ≤ h.length) (o : Obj) : HeapOk n (h ++ [o]) := by
  intro b hb
  have : (h ++ [o])[b]? = h[b]? := List.getElem?_append_left (by omega)
  rw [this]
  exact ho b hb

theorem Grow.app (base : Nat) (h : Heap) (o : Obj) : Grow base h (h ++ [o]) := ⟨by simp, fun _ _ h2 ho => ho.app h2 o⟩

theorem HeapOk.setBox {n b : Nat} {t : TypeId} {h : Heap} {cs : List V} (ho : HeapOk n h) (hc : b < n → refsLts n cs = true) : HeapOk n (h.set b (.box t cs)) := by
  intro c hc'
  by_cases e : c = b
  · subst e
    rcases Nat.lt_or_ge c h.length with hl | hl
    · rw [List.getElem?_set_self hl]
      refine ⟨fun _ cs' he => ?_, fun _ _ _ _ he => by simp at he, fun _ he => by simp at he⟩
      simp at he
      obtain ⟨_, rfl⟩ := he
      exact hc hc'
    · rw [List.getElem?_eq_none (by simpa using hl)]
      exact ⟨fun _ _ he => by simp at he, fun _ _ _ _ he => by simp at he, fun _ he => by simp at he⟩
  · rw [List.getElem?_set_ne (by omega)]
    exact ho c hc'

theorem HeapOk.setRow {n b sz e : Nat} {t : TypeId} {h : Heap} {rows : List (List V)} (ho : HeapOk n h) (hc : b < n → ∀ r ∈ rows, refsLts n r = true) : HeapOk n (h.set b (.row t sz e rows)) := by
  intro c hc'
  by_cases ec : c = b
  · subst ec
    rcases Nat.lt_or_ge c h.length with hl | hl
    · rw [List.getElem?_set_self hl]
      refine ⟨fun _ cs' he => by simp at he, fun _ _ _ rows' he => ?_, fun _ he => by simp at he⟩
      simp at he
      obtain ⟨_, _, _, rfl⟩ := he
      exact hc hc'
    · rw [List.getElem?_eq_none (by simpa using hl)]
      exact ⟨fun _ _ he => by simp at he, fun _ _ _ _ he => by simp at he, fun _ he => by simp at he⟩
  · rw [List.getElem?_set_ne (by omega)]
    exact ho c hc'

theorem HeapOk.setMap {n b : Nat} {h : Heap} {es : List (Value × V)} (ho : HeapOk n h) (hc : b < n → ∀ e ∈ es, refsLt n e.2 = true) : HeapOk n (h.set b (.mmap es)) := by
  intro c hc'
  by_cases ec : c = b
  · subst ec
    rcases Nat.lt_or_ge c h.length with hl | hl
    · rw [List.getElem?_set_self hl]
      refine ⟨fun _ cs' he => by simp at he, fun _ _ _ rows' he => by simp at he, fun es' he => ?_⟩
      simp at he
      subst he
      exact hc hc'
    · rw [List.getElem?_eq_none (by simpa using hl)]
      exact ⟨fun _ _ he => by simp at he, fun _ _ _ _ he => by simp at he, fun _ he => by simp at he⟩
  · rw [List.getElem?_set_ne (by omega)]
    exact ho c hc'

theorem mayStore_refs {base b n : Nat} {cs : List V} (h : mayStore base b cs = true) (hb : b < n) (hn : n ≤ base) : refsLts n cs = true := by
  unfold mayStore at h
  simp only [Bool.or_eq_true, decide_eq_true_eq] at h
  rcases h with h | h
  · omega
  · exact refsLts_mono (by omega) h

theorem refsLts_append {n : Nat} {a b : List V} (h : refsLts n a = true) (k : refsLts n b = true) : refsLts n (a ++ b) = true := by
  rw [refsLts_all] at *
  intro v hv
  rcases List.mem_append.1 hv with hv | hv
  · exact h v hv
  · exact k v hv

theorem refsLts_sub {n : Nat} {a b : List V} (h : refsLts n a = true) (hs : ∀ v ∈ b, v ∈ a) : refsLts n b = true := by
  rw [refsLts_all] at *
  exact fun v hv => h v (hs v hv)

theorem refsLts_put {n off : Nat} {cs new : List V} (h : refsLts n cs = true) (k : refsLts n new = true) : refsLts n (putCells cs off new) = true := by
  unfold putCells
  exact refsLts_append (refsLts_append (refsLts_sub h fun _ hv => List.mem_of_mem_take hv) k) (refsLts_sub h fun _ hv => List.mem_of_mem_drop hv)

theorem storeV_grow {base n : Nat} {h h' : Heap} {a x : V} (hs : storeV base h n a x = some h') : Grow base h h' := by
  unfold storeV at hs
  split at hs
  case isFalse => simp at hs
  split at hs
  · rename_i b off
    split at hs
    · rename_i cs eq
      split at hs
      · rename_i hc
        injection hs with hs
        subst hs
        exact ⟨by simp, fun m h1 h2 ho => ho.setBox fun hb => refsLts_put ((ho b hb).1 _ cs eq) (mayStore_refs hc.2 hb h1)⟩
      · simp at hs
    · simp at hs
  · rename_i b e i off
    split at hs
    · rename_i ty sz e' rows eq
      split at hs
      · split at hs
        · rename_i cs hi
          split at hs
          · rename_i hc
            injection hs with hs
            subst hs
            refine ⟨by simp, fun m h1 h2 ho => ho.setRow fun hb r hr => ?_⟩
            rcases List.mem_or_eq_of_mem_set hr with hr | rfl
            · exact (ho b hb).2.1 _ _ _ rows eq r hr
            · exact refsLts_put ((ho b hb).2.1 _ _ _ rows eq cs (List.mem_of_getElem? hi)) (mayStore_refs hc.2 hb h1)
          · split at hs
            · rename_i hc
              injection hs with hs
              subst hs
              refine ⟨by simp, fun m h1 h2 ho => ho.setRow fun hb r hr => ?_⟩
              refine refsLts_sub (refsLts_put (cs := rows.flatten) ?_ (mayStore_refs hc.2.2 hb h1)) (chunk_mem hr)
              rw [refsLts_all]
              intro v hv
              obtain ⟨r', hr', hv'⟩ := List.mem_flatten.1 hv
              have := (ho b hb).2.1 _ _ _ rows eq r' hr'
              rw [refsLts_all] at this
              exact this v hv'
            · simp at hs
        · simp at hs
      · simp at hs
    · simp at hs
  · simp at hs

theorem appendV_grow {base sz : Nat} {t : TypeId} {h h' : Heap} {s v : V} {new : List (List V)} (hs : appendV base h t sz s new = some (v, h')) : Grow base h h' := by
  unfold appendV at hs
  split at hs
  · simp only [Option.map_eq_some_iff, Prod.mk.injEq] at hs
    obtain ⟨_, _, _, rfl⟩ := hs
    exact Grow.refl _ _
  · split at hs
    · split at hs
      · injection hs with hs
        simp only [Prod.mk.injEq] at hs
        rw [← hs.2]
        exact Grow.app _ _ _
      · simp at hs
    · split at hs
      · injection hs with hs
        simp only [Prod.mk.injEq] at hs
        rw [← hs.2]
        exact Grow.app _ _ _
      · simp at hs
    · rename_i b ep len
      split at hs
      · rename_i ty z e' rows eq
        split at hs
        · rename_i hc
          injection hs with hs
          simp only [Prod.mk.injEq] at hs
          rw [← hs.2]
          refine ⟨by simp, fun m h1 h2 ho => ho.setRow fun hb r hr => ?_⟩
          rcases List.mem_append.1 hr with hr | hr
          · exact (ho b hb).2.1 _ _ _ rows eq r (List.mem_of_mem_take hr)
          · exact mayStore_refs (List.all_eq_true.1 hc.2.2.2.2.2.2 r hr) hb h1
        · simp at hs
      · simp at hs
    · simp at hs

theorem copyV_grow {base sz : Nat} {h h' : Heap} {d : V} {k : Nat} {new : List (List V)} (hs : copyV base h sz d new = some (k, h')) : Grow base h h' := by
  unfold copyV at hs
  split at hs
  · simp at hs
  · rename_i m hm
    split at hs
    · simp only [Option.some.injEq, Prod.mk.injEq] at hs
      rw [← hs.2]
      exact Grow.refl _ _
    · rename_i hne
      split at hs
      · rename_i b e off len
        split at hs
        · rename_i ty z e' rows eq
          split at hs
          · rename_i hc
            simp only [Option.some.injEq, Prod.mk.injEq] at hs
            rw [← hs.2]
            refine ⟨by simp, fun m h1 h2 ho => ho.setRow fun hb r hr => ?_⟩
            rcases List.mem_append.1 hr with hr | hr
            · rcases List.mem_append.1 hr with hr | hr
              · exact (ho b hb).2.1 _ _ _ rows eq r (List.mem_of_mem_take hr)
              · exact mayStore_refs (List.all_eq_true.1 hc.2.2.2.2 r hr) hb h1
            · exact (ho b hb).2.1 _ _ _ rows eq r (List.mem_of_mem_drop hr)
          · simp at hs
        · simp at hs
      · simp at hs

theorem sliceV_grow {base sz lo : Nat} {hi mx : Option Nat} {h h' : Heap} {x v : V} (hs : sliceV h sz x lo hi mx = some (v, h')) : Grow base h h' := by
  unfold sliceV at hs
  split at hs
  · split at hs
    · injection hs with hs
      simp only [Prod.mk.injEq] at hs
      rw [← hs.2]
      exact Grow.refl _ _
    · simp at hs
  · rename_i b ep off len
    split at hs
    · split at hs
      · rename_i ty z e' rs eq
        split at hs
        · split at hs
          · injection hs with hs
            simp only [Prod.mk.injEq] at hs
            rw [← hs.2]
            exact Grow.refl _ _
          · split at hs
            · injection hs with hs
              simp only [Prod.mk.injEq] at hs
              rw [← hs.2]
              exact ⟨by simp, fun m h1 h2 ho => ho.setRow fun hb r hr => (ho b hb).2.1 _ _ _ rs eq r (List.mem_of_mem_take hr)⟩
            · simp at hs
        · simp at hs
      · simp at hs
    · simp at hs
  · split at hs
    · injection hs with hs
      simp only [Prod.mk.injEq] at hs
      rw [← hs.2]
      exact Grow.refl _ _
    · simp at hs
  · simp at hs

theorem HeapOk.setDead {n b : Nat} {h : Heap} (ho : HeapOk n h) : HeapOk n (h.set b .dead) := by
  intro c hc'
  by_cases ec : c = b
  · subst ec
    rcases Nat.lt_or_ge c h.length with hl | hl
    · rw [List.getElem?_set_self hl]
      exact ⟨fun _ _ he => by simp at he, fun _ _ _ _ he => by simp at he, fun _ he => by simp at he⟩
    · rw [List.getElem?_eq_none (by simpa using hl)]
      exact ⟨fun _ _ he => by simp at he, fun _ _ _ _ he => by simp at he, fun _ he => by simp at he⟩
  · rw [List.getElem?_set_ne (by omega)]
    exact ho c hc'

theorem strDataV_grow {base k : Nat} {u : TypeId} {h h' : Heap} {x v : V} (hs : strDataV h u k x = some (v, h')) : Grow base h h' := by
  unfold strDataV at hs
  split at hs
  · split at hs
    · injection hs with hs
      simp only [Prod.mk.injEq] at hs
      rw [← hs.2]
      exact Grow.refl _ _
    · simp at hs
  · split at hs
    · split at hs
      · simp only [Option.map_eq_some_iff, Prod.mk.injEq] at hs
        obtain ⟨_, _, _, rfl⟩ := hs
        exact ⟨by simp, fun m h1 h2 ho => ho.setDead⟩
      · simp at hs
    · simp at hs
  · simp at hs

/-- Every answer leaves memory grown. -/
def GrowO (base : Nat) (h : Heap) (x : Option (V × Heap)) : Prop := ∀ v h', x = some (v, h') → Grow base h h'

theorem GrowO.none {base : Nat} {h : Heap} : GrowO base h none := fun _ _ e => by simp at e
theorem GrowO.same {base : Nat} {h : Heap} {v : V} : GrowO base h (some (v, h)) := fun _ _ e => by
  simp only [Option.some.injEq, Prod.mk.injEq] at e
  rw [← e.2]
  exact Grow.refl _ _
theorem GrowO.app {base : Nat} {h : Heap} {v : V} {o : Obj} : GrowO base h (some (v, h ++ [o])) := fun _ _ e => by
  simp only [Option.some.injEq, Prod.mk.injEq] at e
  rw [← e.2]
  exact Grow.app _ _ _
theorem GrowO.map {α : Type} {base : Nat} {h : Heap} {x : Option α} {f : α → V} : GrowO base h (x.map fun a => (f a, h)) := fun _ _ e => by
  simp only [Option.map_eq_some_iff, Prod.mk.injEq] at e
  obtain ⟨_, _, _, rfl⟩ := e
  exact Grow.refl _ _
theorem GrowO.bind {α : Type} {base : Nat} {h : Heap} {x : Option α} {f : α → Option (V × Heap)} (hf : ∀ a, GrowO base h (f a)) : GrowO base h (x.bind f) := fun _ _ e => by
  simp only [Option.bind_eq_some_iff] at e
  obtain ⟨a, _, e⟩ := e
  exact hf a _ _ e
theorem GrowO.ite {base : Nat} {h : Heap} {c : Prop} [Decidable c] {x y : Option (V × Heap)} (hx : GrowO base h x) (hy : GrowO base h y) : GrowO base h (if c then x else y) := by
  split
  · exact hx
  · exact hy

theorem updateV_grow {base : Nat} {h h' : Heap} {kd : LK} {m k x : V} (hs : updateV base h kd m k x = some h') : Grow base h h' := by
  unfold updateV at hs
  simp only [Option.bind_eq_some_iff] at hs
  obtain ⟨key, _, hs⟩ := hs
  split at hs
  · rename_i b
    split at hs
    · rename_i es eq
      split at hs
      · rename_i hc
        simp only [Option.map_eq_some_iff] at hs
        obtain ⟨r, _, hs⟩ := hs
        have hx : ∀ n, b < n → n ≤ base → refsLt n x = true := fun n h1 h2 => by
          have := mayStore_refs hc.2 h1 h2
          simpa [refsLts] using this
        split at hs
        · subst hs
          refine ⟨by simp, fun n h1 h2 ho => ho.setMap fun hb e he => ?_⟩
          rcases List.mem_or_eq_of_mem_set he with he | rfl
          · exact (ho b hb).2.2 es eq e he
          · exact hx n hb h1
        · subst hs
          refine ⟨by simp, fun n h1 h2 ho => ho.setMap fun hb e he => ?_⟩
          rcases List.mem_append.1 he with he | he
          · exact (ho b hb).2.2 es eq e he
          · simp at he
            subst he
            exact hx n hb h1
      · simp at hs
    · simp at hs
  · simp at hs

theorem step_grow {base : Nat} {en : Env} {h h' : Heap} {op : AOp} {v : V} (hs : step base en h op = some (v, h')) : Grow base h h' := by
  refine (?_ : GrowO base h (step base en h op)) v h' hs
  clear hs v h'
  cases op <;> simp only [step]
  case store n a x =>
    intro v h' e
    simp only [Option.map_eq_some_iff, Prod.mk.injEq] at e
    obtain ⟨h2, h1, _, rfl⟩ := e
    exact storeV_grow h1
  case strData u x n =>
    split
    · refine GrowO.ite ?_ GrowO.none
      exact fun _ _ e => strDataV_grow e
    · exact GrowO.none
  case append t sz s x => exact GrowO.bind fun new => fun _ _ e => appendV_grow e
  case mapUpdate kd m k x =>
    intro v h' e
    simp only [Option.map_eq_some_iff, Prod.mk.injEq] at e
    obtain ⟨h2, h1, _, rfl⟩ := e
    exact updateV_grow h1
  case copy sz d x =>
    refine GrowO.bind fun new => fun _ _ e => ?_
    simp only [Option.map_eq_some_iff, Prod.mk.injEq] at e
    obtain ⟨⟨k, h2⟩, h1, _, rfl⟩ := e
    exact copyV_grow h1
  case slice sz x lo hi mx =>
    refine GrowO.bind fun l => ?_
    split
    · exact fun _ _ e => sliceV_grow e
    · exact GrowO.bind fun _ => fun _ _ e => sliceV_grow e
    · exact GrowO.bind fun _ => GrowO.bind fun _ => fun _ _ e => sliceV_grow e
    · exact GrowO.none
  all_goals repeat' first
    | exact GrowO.none
    | exact GrowO.same
    | exact GrowO.app
    | exact GrowO.map
    | refine GrowO.bind fun _ => ?_
    | refine GrowO.ite ?_ ?_
    | split

end Go.Am
end
section
/- Am: regions and control. -/
namespace Go.Am
open Go.RowKit (Below)
section
variable {P : Program} {gl : Nat → Option (List V)} {call : CallF} {base n nt : Nat}

theorem evOp_grow (hc : CallOk P gl call) {en : Env} {h h' : Heap} {op : AOp} {v : V} (hb : base ≤ h.length) (hs : evOp call base en h op = some (v, h')) : Grow base h h' := by
  unfold evOp at hs
  split at hs
  · split at hs
    · exact hc.grow _ _ _ _ _ _ hs hb
    · simp at hs
  · exact step_grow hs

theorem evOper_grow (hc : CallOk P gl call) {en : Env} {h h' : Heap} {o : AOper} {v : V} (hb : base ≤ h.length) (hs : evOper call base en h o = some (v, h')) : Grow base h h' := evOp_grow hc hb (evOper_inv hs).2

theorem evOps_grow (hc : CallOk P gl call) : ∀ {ops : List AOper} {en en' : Env} {h h' : Heap}, base ≤ h.length → evOps call base ops en h = some (en', h') → Grow base h h'
  | [], en, en', h, h', _, hs => by
    simp only [evOps, Option.some.injEq, Prod.mk.injEq] at hs
    rw [← hs.2]
    exact Grow.refl _ _
  | o :: ops, en, en', h, h', hb, hs => by
    have key : ∀ {v h1}, evOper call base en h o = some (v, h1) → evOps call base ops (en.put o.dst v) h1 = some (en', h') → Grow base h h' := by
      intro v h1 e1 e2
      have g1 := evOper_grow hc hb e1
      exact g1.trans (evOps_grow hc (Nat.le_trans hb g1.1) e2)
    unfold evOps at hs
    split at hs
    · split at hs
      · rename_i v h1 e1
        exact key e1 hs
      · simp at hs
    · split at hs
      · split at hs
        · rename_i v h1 e1
          exact key e1 hs
        · simp at hs
      · exact evOps_grow hc hb hs
      · simp at hs

theorem iter_grow {f : Env → Heap → Option (Ex × Env × Heap)} (hf : ∀ en h ex en' h', base ≤ h.length → f en h = some (ex, en', h') → Grow base h h') :
    ∀ (k : Nat) {en en' : Env} {h h' : Heap} {ex : Ex}, base ≤ h.length → iter f k en h = some (ex, en', h') → Grow base h h'
  | 0, _, _, _, _, _, _, hs => by simp [iter] at hs
  | k + 1, en, en', h, h', ex, hb, hs => by
    unfold iter at hs
    split at hs
    · rename_i en1 h1 e1
      have g1 := hf _ _ _ _ _ hb e1
      exact g1.trans (iter_grow hf k (Nat.le_trans hb g1.1) hs)
    · exact hf _ _ _ _ _ hb hs

theorem evC_grow (hc : CallOk P gl call) : ∀ {c : ACode} {en en' : Env} {h h' : Heap} {ex : Ex}, base ≤ h.length → evC call base n c en h = some (ex, en', h') → Grow base h h'
  | .skip, _, _, _, _, _, _, hs => by simp only [evC, Option.some.injEq, Prod.mk.injEq] at hs; rw [← hs.2.2]; exact Grow.refl _ _
  | .ret, _, _, _, _, _, _, hs => by simp only [evC, Option.some.injEq, Prod.mk.injEq] at hs; rw [← hs.2.2]; exact Grow.refl _ _
  | .exit id, _, _, _, _, _, _, hs => by simp only [evC, Option.some.injEq, Prod.mk.injEq] at hs; rw [← hs.2.2]; exact Grow.refl _ _
  | .fail, _, _, _, _, _, _, hs => by simp [evC] at hs
  | .seq a b, en, en', h, h', ex, hb, hs => by
    simp only [evC] at hs
    split at hs
    · rename_i en1 h1 e1
      have g1 := evC_grow hc hb e1
      exact g1.trans (evC_grow hc (Nat.le_trans hb g1.1) hs)
    · exact evC_grow hc hb hs
  | .cond c a b, en, en', h, h', ex, hb, hs => by
    simp only [evC] at hs
    split at hs
    · split at hs
      · exact evC_grow hc hb hs
      · exact evC_grow hc hb hs
    · simp at hs
  | .region ops, en, en', h, h', ex, hb, hs => by
    simp only [evC] at hs
    split at hs
    · rename_i en1 h1 e1
      simp only [Option.some.injEq, Prod.mk.injEq] at hs
      rw [← hs.2.2]
      exact evOps_grow hc hb e1
    · simp at hs
  | .block id c, en, en', h, h', ex, hb, hs => by
    simp only [evC] at hs
    split at hs
    · rename_i i en1 h1 e1
      have g1 := evC_grow hc hb e1
      split at hs
      · simp only [Option.some.injEq, Prod.mk.injEq] at hs
        rw [← hs.2.2]
        exact g1
      · simp only [Option.some.injEq, Prod.mk.injEq] at hs
        rw [← hs.2.2]
        exact g1
    · exact evC_grow hc hb hs
  | .loop c, en, en', h, h', ex, hb, hs => by
    simp only [evC] at hs
    exact iter_grow (fun _ _ _ _ _ hb e => evC_grow hc hb e) n hb hs

/-! ### The machine -/

def AOp.isCall : AOp → Bool
  | .call _ _ => true
  | _ => false

def NoC (x : Option AOp) : Prop := ∀ y, x = some y → y.isCall = false

theorem NoC.none : NoC none := fun _ e => by simp at e
theorem NoC.some {y : AOp} (h : y.isCall = false) : NoC (some y) := fun _ e => by injection e with e; rw [← e]; exact h
theorem NoC.map {α : Type} {x : Option α} {f : α → AOp} (h : ∀ a, (f a).isCall = false) : NoC (x.map f) := fun _ e => by
  simp only [Option.map_eq_some_iff] at e
  obtain ⟨a, _, rfl⟩ := e
  exact h a
theorem NoC.bind {α : Type} {x : Option α} {f : α → Option AOp} (h : ∀ a, NoC (f a)) : NoC (x.bind f) := fun y e => by
  simp only [Option.bind_eq_some_iff] at e
  obtain ⟨a, _, e⟩ := e
  exact h a y e
theorem NoC.ite {c : Prop} [Decidable c] {x y : Option AOp} (hx : NoC x) (hy : NoC y) : NoC (if c then x else y) := by
  split
  · exact hx
  · exact hy

theorem compOp_call {op : Op} {f : Opd} {args : List Opd} (h : compOp P gl op = some (.call f args)) :
    ∃ fo as ts, op = .call { callee := .value fo, args := as, argTypes := ts } ∧ opd gl fo = some f ∧ opds gl as.toList = some args := by
  have hno : ∀ x : Option AOp, NoC x → x ≠ some (.call f args) := fun x hx e => by have := hx _ e; simp [AOp.isCall] at this
  cases op
  case call c =>
    obtain ⟨callee, as, ts⟩ := c
    simp only [compOp, compCall] at h
    split at h
    · simp only [Option.bind_eq_some_iff, Option.map_eq_some_iff] at h
      obtain ⟨f', hf, xs, hx, he⟩ := h
      injection he with e1 e2
      subst e1; subst e2
      exact ⟨_, _, _, rfl, hf, hx⟩
    · exfalso
      refine hno _ ?_ h
      unfold compBuiltin
      repeat' first
        | exact NoC.none
        | exact NoC.some rfl
        | exact NoC.map fun _ => rfl
        | refine NoC.bind fun _ => ?_
        | refine NoC.ite ?_ ?_
        | split
    · simp at h
  case makeMap t r =>
    exfalso
    cases r with
    | none => exact hno _ (NoC.some (y := .makeMap) rfl) h
    | some r => simp [compOp] at h
  all_goals
    exfalso
    refine hno _ ?_ h
    simp only [compOp, compBin, compConv]
    repeat' first
      | exact NoC.none
      | exact NoC.some rfl
      | exact NoC.map fun _ => rfl
      | refine NoC.bind fun _ => ?_
      | refine NoC.ite ?_ ?_
      | split

/-- One operation, calls too. -/
theorem oper_wp (hc : CallOk P gl call) {G : Tie} {en : Env} {h h' : Heap} {a : Act} {w : World} {o : Oper} {ao : AOper} {all : List Oper} {v : V} {Q : Exit → Act → World → Prop} {next : Act → World → Prop}
    (hgl : GlobOk G gl) (he : RepEnv G en a.tmps) (R : Rel G h w) (hb : base ≤ h.length) (hco : compOper P gl nt all o = some ao) (hs : evOper call base en h ao = some (v, h'))
    (hn : ∀ r w' G', Reach G w h' w' G' → RepV G' v r → next (a.put o.dst r) w') : o.wp P a w next Q := by
  unfold compOper at hco
  have hop : ao.op = compOpT P gl o.op := by
    simp only at hco
    split at hco
    · split at hco
      · injection hco with hco; rw [← hco]
      · simp only [Option.map_eq_some_iff] at hco
        obtain ⟨d, _, rfl⟩ := hco
        rfl
    · simp at hco
  unfold Oper.wp
  have quiet : step base en h ao.op = some (v, h') → o.upon P a next Q ((execOp a.eval o).run P w) := by
    intro hst
    rw [hop] at hst
    unfold compOpT at hst
    cases hcp : compOp P gl o.op with
    | none => rw [hcp] at hst; simp [step] at hst
    | some op =>
      rw [hcp] at hst
      obtain ⟨r, w', G', hrun, x, R', hv, hbl⟩ := step_run hgl he R hcp hst
      rcases hrun with hrun | ⟨hrun, rfl⟩
      · rw [hrun]
        exact hn r w' G' ⟨x, R', hbl⟩ hv
      · rw [hrun]
        exact hn undef w' G' ⟨x, R', hbl⟩ hv
  have hs := (evOper_inv hs).2
  generalize hgo : ao.op = gop at hs
  unfold evOp at hs
  split at hs
  · rename_i f args
    have eop := hgo
    rw [hop] at eop
    split at hs
    · rename_i k vs et
      have hcp : compOp P gl o.op = some (.call f args) := by
        unfold compOpT at eop
        cases hcp : compOp P gl o.op with
        | none => rw [hcp] at eop; simp at eop
        | some op => rw [hcp] at eop; simp only [Option.getD_some] at eop; rw [eop]
      obtain ⟨fo, as, ts, ho, hf, hargs⟩ := compOp_call hcp
      have hfv := opd_rep hgl he hf
      have hav := opds_rep hgl he hargs
      unfold target at et
      split at et
      · rename_i g fa fc ef
        injection et with et
        simp only [Prod.mk.injEq] at et
        obtain ⟨rfl, rfl⟩ := et
        rw [ef] at hfv
        simp only [RepV] at hfv
        obtain ⟨ra, rc, hr, h1, h2⟩ := hfv
        have hvals : RepL G (fa ++ getsO en args ++ fc) ((ra ++ as.map a.eval) ++ rc).toList := by
          simp only [Array.toList_append]
          refine (h1.append ?_).append h2
          simpa using hav
        have hcall := hc.runs _ _ _ _ _ _ hs hb G w _ hgl R hvals
        have hex : execOp a.eval o = callFunc g ((ra ++ as.map a.eval) ++ rc) := by
          simp only [execOp, ho, resolve, hr, Deferred.ofValue]
          rfl
        rw [hex]
        unfold CallsF at hcall
        split at hcall
        · rename_i v' w' e1
          rw [e1]
          obtain ⟨G', hreach, hv⟩ := hcall
          exact hn _ _ _ hreach hv
        · rename_i g' as' w' e1
          rw [e1]
          rw [Oper.upon_enter]
          refine hcall.mono ?_
          intro e w'' hq
          cases e with
          | returned rv =>
            obtain ⟨G', hreach, hv⟩ := hq
            exact hn _ _ _ hreach hv
          | panicked chain => exact hq.elim
          | outgrown => exact hq.elim
        · rename_i row as' w' e1
          rw [e1]
          rw [Oper.upon_row]
          refine hcall.mono ?_
          intro rv w'' hq
          obtain ⟨G', hreach, hv⟩ := hq
          exact hn _ _ _ hreach hv
        · exact hcall.elim
      · simp at et
    · simp at hs
  · exact quiet (by rw [hgo]; exact hs)

theorem compOper_inv {all : List Oper} {o : Oper} {ao : AOper} (h : compOper P gl nt all o = some ao) :
    ao.off = [] ∧ ao.dst = o.dst ∧ (∀ d, o.dst = some d → d < nt) ∧ ((o.guard = none ∧ ao.guard = none) ∨ ∃ j want d, o.guard = some (j, want) ∧ ao.guard = some (d, want) ∧ (all[j]?).bind (·.dst) = some d) := by
  unfold compOper at h
  simp only at h
  split at h
  · rename_i hd
    have hd' : ∀ d, o.dst = some d → d < nt := by
      intro d hdd
      rw [hdd] at hd
      simpa using hd
    split at h
    · rename_i hg
      injection h with h
      subst h
      exact ⟨rfl, rfl, hd', .inl ⟨hg, rfl⟩⟩
    · rename_i j want hg
      simp only [Option.map_eq_some_iff] at h
      obtain ⟨d, hdd, rfl⟩ := h
      exact ⟨rfl, rfl, hd', .inr ⟨j, want, d, hg, rfl, hdd⟩⟩
  · simp at h

theorem put_env {G : Tie} {en : Env} {a : Act} (he : RepEnv G en a.tmps) {dst : Option Nat} (hd : ∀ d, dst = some d → d < nt) (hsz : nt ≤ a.tmps.size) {v : V} {r : Value} (hv : RepV G v r) :
    RepEnv G (en.put dst v) (a.put dst r).tmps ∧ (a.put dst r).tmps.size = a.tmps.size ∧ (a.put dst r).defers = a.defers := by
  cases dst with
  | none => exact ⟨he, rfl, rfl⟩
  | some d => exact ⟨he.put (Nat.lt_of_lt_of_le (hd d rfl) hsz) hv, by simp [Act.put], rfl⟩

/-- An abstract operation serves one of the model's: it stands for what this comes to. -/
def Serves (P : Program) (gl : Nat → Option (List V)) (nt : Nat) (all : List Oper) (o : Oper) (ao : AOper) : Prop :=
  ∃ b, compOper P gl nt all o = some b ∧ Stands ao b

/-- One operation of a region. -/
theorem one_wp (hc : CallOk P gl call) {ops : Array Oper} {Q : Exit → Act → World → Prop} {K : Act → World → Prop} {i : Nat} {o : Oper} {ao : AOper} {G : Tie} {en : Env} {h h' : Heap} {a : Act} {w : World} {v : V}
    (ho : ops[i]? = some o) (hser : Serves P gl nt ops.toList o ao) (hgl : GlobOk G gl) (he : RepEnv G en a.tmps) (R : Rel G h w) (hb : base ≤ h.length) (hsz : nt ≤ a.tmps.size) (hs : evVal call base ao en h = some (v, h'))
    (hK : ∀ a' w' G', Reach G w h' w' G' → base ≤ h'.length → RepEnv G' (en.put ao.dst v) a'.tmps → a'.tmps.size = a.tmps.size → a'.defers = a.defers → K a' w') : wpOp P ops Q i K a w := by
  obtain ⟨b, hco, hab⟩ := hser
  have hs' : evVal call base b en h = some (v, h') := hab.val hs
  have hdst' : ao.dst = b.dst := hab.1
  rw [hdst'] at hK
  clear hs hab hdst'
  obtain ⟨_, hdst, hdlt, hguard⟩ := compOper_inv hco
  rw [hdst] at hK
  unfold wpOp
  simp only [ho]
  have key : evOper call base en h b = some (v, h') → o.wp P a w K Q := by
    intro e1
    refine oper_wp hc hgl he R hb hco e1 fun r w' G' hreach hv => ?_
    obtain ⟨p1, p2, p3⟩ := put_env (he.ext hreach.ext) hdlt hsz hv
    exact hK _ _ G' hreach (Nat.le_trans hb (evOper_grow hc hb e1).1) p1 p2 p3
  unfold evVal at hs'
  split at hs'
  · rename_i hg
    have hw : Region.wanted o (yielded ops a.tmps) = true := by
      rcases hguard with ⟨h1, _⟩ | ⟨j, want, d, _, h2, _⟩
      · unfold Region.wanted; rw [h1]
      · rw [h2] at hg; simp at hg
    rw [if_pos hw]
    exact .inl (key hs')
  · rename_i g want hg
    rcases hguard with ⟨_, h2⟩ | ⟨j, want', d, h1, h2, hd⟩
    · rw [h2] at hg; simp at hg
    · rw [h2] at hg
      injection hg with hg
      simp only [Prod.mk.injEq] at hg
      obtain ⟨rfl, rfl⟩ := hg
      cases hgo : gOk (en d) want' with
      | none => rw [hgo] at hs'; simp at hs'
      | some t =>
        rw [hgo] at hs'
        have hw : Region.wanted o (yielded ops a.tmps) = t := by
          have hd' : (ops[j]?).bind (·.dst) = some d := by rw [← Array.getElem?_toList]; exact hd
          have hrep := he d
          unfold gOk at hgo
          split at hgo
          · rename_i u hu
            rw [hu] at hrep
            have hrep := hrep.sc_inv
            have hy : yielded ops a.tmps j = some u := by
              unfold yielded
              rw [hd']
              simp only [Option.bind_some]
              have hlt : d < a.tmps.size := by
                rcases Nat.lt_or_ge d a.tmps.size with hl | hl
                · exact hl
                · simp [Array.getD, show ¬ d < a.tmps.size by omega, undef] at hrep
              have : a.tmps[d]? = some (.bool u) := by
                rw [Array.getElem?_eq_getElem hlt]
                simpa [Array.getD, hlt] using hrep
              rw [this]
            unfold Region.wanted
            rw [h1]
            simp only [hy]
            injection hgo with hgo
          · rename_i hu
            rw [hu] at hrep
            simp only [RepV, RepL] at hrep
            obtain ⟨rs, hr, hrs⟩ := hrep
            have hy : yielded ops a.tmps j = none := by
              unfold yielded
              rw [hd']
              simp only [Option.bind_some]
              cases ht : a.tmps[d]? with
              | none => rfl
              | some x =>
                have : a.tmps.getD d undef = x := by simp [Array.getD_eq_getD_getElem?, ht]
                rw [this] at hr
                rw [hr]
            unfold Region.wanted
            rw [h1]
            simp only [hy]
            injection hgo with hgo
          · simp at hgo
        rw [hw]
        cases t with
        | true =>
          rw [if_pos rfl]
          exact .inl (key hs')
        | false =>
          rw [if_neg (by simp)]
          simp only [Option.some.injEq, Prod.mk.injEq] at hs'
          obtain ⟨rfl, rfl⟩ := hs'
          obtain ⟨p1, p2, p3⟩ := put_env (a := a) he hdlt hsz (v := .tup []) (r := undef) (by simp only [RepV]; exact ⟨#[], rfl, by simp [RepL]⟩)
          exact hK _ _ G (Reach.refl R) hb p1 p2 p3

theorem ops_wp (hc : CallOk P gl call) {ops : Array Oper} {Q : Exit → Act → World → Prop} : ∀ {l : List Nat} {aops : List AOper} {G : Tie} {en en' : Env} {h h' : Heap} {a : Act} {w : World},
    All2 (fun i ao => ∃ o, ops[i]? = some o ∧ Serves P gl nt ops.toList o ao) l aops →
    GlobOk G gl → RepEnv G en a.tmps → Rel G h w → base ≤ h.length → nt ≤ a.tmps.size → evOps call base aops en h = some (en', h') →
    (∀ a' w' G', Reach G w h' w' G' → RepEnv G' en' a'.tmps → a'.tmps.size = a.tmps.size → a'.defers = a.defers → Q .normal a' w') → wpOps P ops Q l a w
  | [], aops, G, en, en', h, h', a, w, hall, hgl, he, R, hb, hsz, hs, hQ => by
    simp only [All2] at hall
    subst hall
    simp only [evOps, Option.some.injEq, Prod.mk.injEq] at hs
    obtain ⟨rfl, rfl⟩ := hs
    exact hQ a w G (Reach.refl R) he rfl rfl
  | i :: l, aops, G, en, en', h, h', a, w, hall, hgl, he, R, hb, hsz, hs, hQ => by
    simp only [All2] at hall
    obtain ⟨ao, aops, rfl, ⟨o, ho, hser⟩, hall⟩ := hall
    rw [evOps_cons, Option.bind_eq_some_iff] at hs
    obtain ⟨⟨v, h1⟩, e1, e2⟩ := hs
    rw [wpOps_cons]
    refine one_wp hc ho hser hgl he R hb hsz e1 fun a' w' G' hreach hb' he' q1 q2 => ?_
    refine ops_wp hc hall (hgl.ext hreach.ext) he' hreach.rel hb' (by omega) e2 fun a'' w'' G'' hreach' he'' r1 r2 => ?_
    exact hQ a'' w'' G'' (hreach.trans hreach') he'' (r1.trans q1) (r2.trans q2)

/-! ### Where the order is open -/

theorem depB_listed {ops : Array Oper} {listed : Array Bool} (down : ∀ (i : Nat) (o : Oper), ops[i]? = some o → listed.getD i false = true → ∀ e ∈ o.after, Region.binds .any e = true → listed.getD e.on false = true) :
    ∀ (k i x : Nat) (o : Oper), ops[i]? = some o → (∀ e ∈ o.after, Region.binds .any e = true → listed.getD e.on false = true) → depB ops.toList k i x = true → listed.getD x false = true
  | 0, _, _, _, _, _, hd => by simp [depB] at hd
  | k + 1, i, x, o, ho, hl, hd => by
    have ho' : ops.toList[i]? = some o := by rw [Array.getElem?_toList]; exact ho
    simp only [depB, ho', List.any_eq_true, Bool.and_eq_true, Bool.or_eq_true, beq_iff_eq, Array.mem_toList_iff] at hd
    obtain ⟨e, hm, hb, he⟩ := hd
    rcases he with rfl | he
    · exact hl e hm hb
    · have hon := hl e hm hb
      cases hoe : ops[e.on]? with
      | none =>
        have : ops.toList[e.on]? = none := by rw [Array.getElem?_toList]; exact hoe
        cases k with
        | zero => simp [depB] at he
        | succ k => simp [depB, this] at he
      | some oe => exact depB_listed down k e.on x oe hoe (fun e' hm' hb' => down e.on oe hoe hon e' hm' hb') he

theorem getD_true_lt {listed : Array Bool} {i : Nat} (h : listed.getD i true = false) : i < listed.size := by
  rcases Nat.lt_or_ge i listed.size with h' | h'
  · exact h'
  · simp [Array.getElem?_eq_none h'] at h

theorem least_mem : ∀ {M : List Nat}, M ≠ [] → ∃ m ∈ M, ∀ x ∈ M, m ≤ x
  | [], h => absurd rfl h
  | [m], _ => ⟨m, by simp, by simp⟩
  | m :: n :: M, _ => by
    obtain ⟨k, hk, hall⟩ := least_mem (M := n :: M) (by simp)
    by_cases h : m ≤ k
    · exact ⟨m, by simp, fun x hx => by
        rcases List.mem_cons.1 hx with rfl | hx
        · exact Nat.le_refl _
        · exact Nat.le_trans h (hall x hx)⟩
    · exact ⟨k, List.mem_cons_of_mem _ hk, fun x hx => by
        rcases List.mem_cons.1 hx with rfl | hx
        · omega
        · exact hall x hx⟩

/-- Every one ahead of another may be gone past by it, or is waited for. -/
def PairsOk (quiet : FuncId → Nat) (ops : List Oper) (f : Nat → AOper) (M : List Nat) : Prop :=
  M.Pairwise fun x i => depB ops ops.length i x = true ∨ commB quiet (f x) (f i) = true

theorem any_wp {quiet : FuncId → Nat} (hq : QuietOk quiet call) (hc : CallOk P gl call) {ops : Array Oper} {Q : Exit → Act → World → Prop} {f : Nat → AOper}
    (hf : ∀ (i : Nat) (o : Oper), ops[i]? = some o → Serves P gl nt ops.toList o (f i))
    (hback : ∀ (i : Nat) (o : Oper), ops[i]? = some o → ∀ e ∈ o.after, Region.binds .any e = true → e.on < i) :
    ∀ (fuel : Nat) (listed : Array Bool) (M : List Nat) {G : Tie} {en en' : Env} {h h' : Heap} {a : Act} {w : World},
      M.Nodup → PairsOk quiet ops.toList f M → (∀ i, i ∈ M ↔ i < ops.size ∧ listed.getD i true = false) → listed.size = ops.size → M.length ≤ fuel →
      (∀ (i : Nat) (o : Oper), ops[i]? = some o → listed.getD i false = true → ∀ e ∈ o.after, Region.binds .any e = true → listed.getD e.on false = true) →
      GlobOk G gl → RepEnv G en a.tmps → Rel G h w → base ≤ h.length → nt ≤ a.tmps.size → evOps call base (M.map f) en h = some (en', h') →
      (∀ a' w' G', Reach G w h' w' G' → RepEnv G' en' a'.tmps → a'.tmps.size = a.tmps.size → a'.defers = a.defers → Q .normal a' w') → wpAny P .any ops Q fuel listed a w := by
  intro fuel
  have done : ∀ (listed : Array Bool) (M : List Nat) {G : Tie} {en en' : Env} {h h' : Heap} {a : Act} {w : World},
      (∀ i, i ∈ M ↔ i < ops.size ∧ listed.getD i true = false) → listed.size = ops.size → 
      RepEnv G en a.tmps → Rel G h w → evOps call base (M.map f) en h = some (en', h') →
      (∀ a' w' G', Reach G w h' w' G' → RepEnv G' en' a'.tmps → a'.tmps.size = a.tmps.size → a'.defers = a.defers → Q .normal a' w') → Region.ready .any ops listed = [] → Q .normal a w := by
    intro listed M G en en' h h' a w hM hlen he R hs hQ hr
    by_cases hMn : M = []
    · subst hMn
      simp only [List.map_nil, evOps, Option.some.injEq, Prod.mk.injEq] at hs
      obtain ⟨rfl, rfl⟩ := hs
      exact hQ a w G (Reach.refl R) he rfl rfl
    · exfalso
      obtain ⟨m, hmM, hleast⟩ := least_mem hMn
      obtain ⟨hm, hml⟩ := (hM m).1 hmM
      have : m ∈ Region.ready .any ops listed := by
        rw [mem_ready]
        refine ⟨hml, ops[m], Array.getElem?_eq_getElem hm, fun e he hb => ?_⟩
        have hlt := hback m _ (Array.getElem?_eq_getElem hm) e he hb
        cases hv : listed.getD e.on false with
        | true => rfl
        | false =>
          exfalso
          have hin : e.on ∈ M := (hM e.on).2 ⟨by omega, by
            have : e.on < listed.size := by omega
            simp [this] at hv ⊢
            exact hv⟩
          have := hleast _ hin
          omega
      rw [hr] at this
      simp at this
  induction fuel with
  | zero =>
    intro listed M G en en' h h' a w hnd hp hM hlen hfuel down hgl he R hb hsz hs hQ
    have hMn : M = [] := by simpa using hfuel
    have hr : Region.ready .any ops listed = [] := by
      refine List.eq_nil_iff_forall_not_mem.2 fun i hi => ?_
      rw [mem_ready] at hi
      have := (hM i).2 ⟨by have := getD_true_lt hi.1; omega, hi.1⟩
      rw [hMn] at this
      simp at this
    exact ⟨hr, done listed M hM hlen he R hs hQ hr⟩
  | succ fuel ih =>
    intro listed M G en en' h h' a w hnd hp hM hlen hfuel down hgl he R hb hsz hs hQ
    refine ⟨done listed M hM hlen he R hs hQ, fun i hi => ?_⟩
    obtain ⟨hil, o, ho, hall⟩ := mem_ready.1 hi
    have hisz : i < ops.size := by have := getD_true_lt hil; omega
    have him := (hM i).2 ⟨hisz, hil⟩
    obtain ⟨p, r, rfl⟩ := List.append_of_mem him
    have hcm : ∀ x ∈ p.map f, commB quiet x (f i) = true := by
      intro y hy
      simp only [List.mem_map] at hy
      obtain ⟨x, hx, rfl⟩ := hy
      unfold PairsOk at hp
      rw [List.pairwise_append] at hp
      rcases hp.2.2 x hx i (by simp) with hd | hd
      · exfalso
        have h1 := depB_listed down _ _ _ o ho hall hd
        have h2 := ((hM x).1 (by simp [hx])).2
        have h3 := getD_true_lt h2
        simp [h3] at h1 h2
        rw [h1] at h2
        simp at h2
      · exact hd
    rw [List.map_append, List.map_cons] at hs
    have hs2 := front hq hcm hs
    rw [evOps_cons, Option.bind_eq_some_iff] at hs2
    obtain ⟨⟨v, h1⟩, e1, e2⟩ := hs2
    refine one_wp hc ho (hf i o ho) hgl he R hb hsz e1 fun a' w' G' hreach hb' he' q1 q2 => ?_
    have hsub : (p ++ r).Sublist (p ++ i :: r) := List.Sublist.append_left (List.sublist_cons_self i r) p
    have hni : i ∉ p ++ r := by
      have h1 := List.nodup_append.1 hnd
      have h2 := List.nodup_cons.1 h1.2.1
      intro hc
      rcases List.mem_append.1 hc with hc | hc
      · exact h1.2.2 i hc i (by simp) rfl
      · exact h2.1 hc
    rw [← List.map_append] at e2
    refine ih (listed.setIfInBounds i true) (p ++ r) (hnd.sublist hsub) (List.Pairwise.sublist hsub hp) ?_ (by simpa using hlen) (by simp at hfuel ⊢; omega) ?_ (hgl.ext hreach.ext) he' hreach.rel hb' (by omega) e2 fun a'' w'' G'' hreach' he'' r1 r2 => hQ a'' w'' G'' (hreach.trans hreach') he'' (r1.trans q1) (r2.trans q2)
    · intro x
      by_cases hx : i = x
      · subst hx
        constructor
        · intro hx; exact absurd hx hni
        · rintro ⟨_, hx⟩
          have : i < listed.size := by omega
          simp [this] at hx
      · rw [getD_set_ne true hx, ← hM x]
        simp only [List.mem_append, List.mem_cons]
        constructor
        · rintro (h1 | h1)
          · exact .inl h1
          · exact .inr (.inr h1)
        · rintro (h1 | h1 | h1)
          · exact .inl h1
          · exact absurd h1.symm hx
          · exact .inr h1
    · intro x ox hox hxl e hm hbd
      by_cases hx : i = x
      · subst hx
        rw [ho] at hox
        injection hox with hox
        subst hox
        exact getD_set_true (hall e hm hbd)
      · rw [getD_set_ne false hx] at hxl
        exact getD_set_true (down x ox hox hxl e hm hbd)

/-- How an abstract run of code leaves, in the machine's words. -/
def Ex.toExit : Ex → Exit
  | .normal => .normal
  | .exit id => .exit id
  | .ret => .ret

theorem compOps_all {all : List Oper} : ∀ {ops : List Oper} {aops : List AOper} (k : Nat), compOps P gl nt all ops = some aops → (∀ j o, ops[j]? = some o → all[k + j]? = some o) →
    All2 (fun i ao => ∃ o, all[i]? = some o ∧ compOper P gl nt all o = some ao) (List.range' k ops.length) aops
  | [], aops, k, h, _ => by simp [compOps] at h; subst h; simp [All2]
  | o :: ops, aops, k, h, hk => by
    simp only [compOps, Option.bind_eq_some_iff, Option.map_eq_some_iff] at h
    obtain ⟨ao, h1, r, h2, rfl⟩ := h
    simp only [List.length_cons, List.range'_succ, All2]
    refine ⟨ao, r, rfl, ⟨o, by simpa using hk 0 o (by simp), h1⟩, compOps_all (k + 1) h2 fun j o' hj => ?_⟩
    have := hk (j + 1) o' (by simpa using hj)
    rwa [show k + (j + 1) = k + 1 + j by omega] at this

/-- A code's run does what the abstract one does. -/
def CodeOk (P : Program) (gl : Nat → Option (List V)) (base nt : Nat) (c : Code) (f : Env → Heap → Option (Ex × Env × Heap)) : Prop :=
  ∀ {G en en' h h' a w ex} {Q : Exit → Act → World → Prop}, GlobOk G gl → RepEnv G en a.tmps → Rel G h w → base ≤ h.length → nt ≤ a.tmps.size → f en h = some (ex, en', h') →
    (∀ a' w' G', Reach G w h' w' G' → RepEnv G' en' a'.tmps → a'.tmps.size = a.tmps.size → a'.defers = a.defers → Q ex.toExit a' w') → c.wp P Q a w

theorem iter_wp {c : Code} {f : Env → Heap → Option (Ex × Env × Heap)} {Q : Exit → Act → World → Prop} (hf : CodeOk P gl base nt c f)
    (hgrow : ∀ en h ex en' h', base ≤ h.length → f en h = some (ex, en', h') → Grow base h h') :
    ∀ (k : Nat) {G : Tie} {en en' : Env} {h h' : Heap} {a : Act} {w : World} {ex : Ex}, GlobOk G gl → RepEnv G en a.tmps → Rel G h w → base ≤ h.length → nt ≤ a.tmps.size → iter f k en h = some (ex, en', h') →
      (∀ a' w' G', Reach G w h' w' G' → RepEnv G' en' a'.tmps → a'.tmps.size = a.tmps.size → a'.defers = a.defers → Q ex.toExit a' w') → Code.rounds P c Q k a w
  | 0, _, _, _, _, _, _, _, _, _, _, _, _, _, hs, _ => by simp [iter] at hs
  | k + 1, G, en, en', h, h', a, w, ex, hgl, he, R, hb, hsz, hs, hQ => by
    rw [rounds_succ]
    unfold iter at hs
    split at hs
    · rename_i en1 h1 e1
      refine hf hgl he R hb hsz e1 fun a' w' G' hreach he' q1 q2 => ?_
      refine iter_wp hf hgrow k (hgl.ext hreach.ext) he' hreach.rel (Nat.le_trans hb (hgrow _ _ _ _ _ hb e1).1) (by omega) hs fun a'' w'' G'' hreach' he'' r1 r2 => ?_
      exact hQ a'' w'' G'' (hreach.trans hreach') he'' (r1.trans q1) (r2.trans q2)
    · rename_i hno
      refine hf hgl he R hb hsz hs fun a' w' G' hreach he' q1 q2 => ?_
      have := hQ a' w' G' hreach he' q1 q2
      cases ex with
      | normal => exact absurd hs (hno en' h')
      | exit id => exact this
      | ret => exact this

theorem All2.mono {α β : Type} {R S : α → β → Prop} (h : ∀ a b, R a b → S a b) : ∀ {as : List α} {bs : List β}, All2 R as bs → All2 S as bs
  | [], _, e => e
  | _ :: _, _, ⟨b, rest, e, r, t⟩ => ⟨b, rest, e, h _ _ r, All2.mono h t⟩

theorem All2.map_right {α β γ : Type} {R : α → γ → Prop} (f : β → γ) : ∀ {as : List α} {bs : List β}, All2 (fun a b => R a (f b)) as bs → All2 R as (bs.map f)
  | [], bs, h => by simp only [All2] at h; subst h; simp [All2]
  | a :: as, bs, h => by
    simp only [All2] at h
    obtain ⟨b, r, rfl, h1, h2⟩ := h
    simp only [List.map_cons, All2]
    exact ⟨_, _, rfl, h1, All2.map_right f h2⟩
theorem All2.length {α β : Type} {R : α → β → Prop} : ∀ {as : List α} {bs : List β}, All2 R as bs → bs.length = as.length
  | [], _, e => by simp only [All2] at e; subst e; rfl
  | _ :: _, _, ⟨b, rest, e, r, t⟩ => by subst e; simp [All2.length t]

theorem All2.get {α β : Type} {R : α → β → Prop} : ∀ {as : List α} {bs : List β}, All2 R as bs → ∀ (i : Nat) (a : α), as[i]? = some a → ∃ b, bs[i]? = some b ∧ R a b
  | [], _, _, i, a, h => by simp at h
  | x :: as, _, ⟨b, rest, e, r, t⟩, 0, a, h => by
    simp only [List.getElem?_cons_zero, Option.some.injEq] at h
    subst h
    exact ⟨b, by simp [e], r⟩
  | x :: as, _, ⟨b, rest, e, r, t⟩, i + 1, a, h => by
    simp only [List.getElem?_cons_succ] at h
    obtain ⟨b', h1, h2⟩ := All2.get t i a h
    exact ⟨b', by simp [e, h1], h2⟩

theorem okPairs_spec {quiet : FuncId → Nat} {ops : List Oper} {l : List AOper} : ∀ {pi : List Nat}, okPairs quiet ops l pi = true → PairsOk quiet ops (fun i => l.getD i default) pi
  | [], _ => List.Pairwise.nil
  | x :: r, h => by
    simp only [okPairs, Bool.and_eq_true, List.all_eq_true, Bool.or_eq_true] at h
    refine List.Pairwise.cons (fun i hi => ?_) (okPairs_spec h.2)
    rcases h.1 i hi with h1 | h1
    · exact .inl h1
    · right
      cases hx : l[x]? with
      | none => rw [hx] at h1; simp at h1
      | some a =>
        cases hi : l[i]? with
        | none => rw [hx, hi] at h1; simp at h1
        | some b =>
          rw [hx, hi] at h1
          simpa [List.getD, hx, hi] using h1

theorem nodupB_spec : ∀ {pi : List Nat}, nodupB pi = true → pi.Nodup
  | [], _ => List.nodup_nil
  | x :: r, h => by
    simp only [nodupB, Bool.and_eq_true, Bool.not_eq_true'] at h
    exact List.nodup_cons.2 ⟨by simpa using h.1, nodupB_spec h.2⟩

/-- A region whose order is open. -/
theorem draw_wp {quiet : FuncId → Nat} (hm : P.follows .mixedOrders = true) (hq : QuietOk quiet call) (hc : CallOk P gl call) {id : Nat} {ops : Array Oper} {aops B : List AOper} (pi : List Nat) (hco : compOps P gl nt ops.toList ops.toList = some aops)
    (hB : B.length = aops.length ∧ ∀ (i : Nat) (x y : AOper), B[i]? = some x → aops[i]? = some y → Stands x y) (hok : okDraw quiet ops.toList B pi = true) :
    CodeOk P gl base nt (.region id ops true) (fun en h => (evOps call base (takeOrder B pi) en h).map fun r => (Ex.normal, r.1, r.2)) := by
  intro G en en' h h' a w ex Q hgl he R hb hsz hs hQ
  simp only [Option.map_eq_some_iff, Prod.mk.injEq] at hs
  obtain ⟨⟨en1, h1⟩, e1, rfl, rfl, rfl⟩ := hs
  have hall := compOps_all (P := P) (gl := gl) (nt := nt) (all := ops.toList) 0 hco (fun j o hj => by simpa using hj)
  have hlen : aops.length = ops.size := by
    have := hall.length
    simpa using this
  simp only [okDraw, Bool.and_eq_true, List.all_eq_true, List.mem_range, beq_iff_eq, Array.length_toList] at hok
  obtain ⟨⟨⟨⟨hpairs, hpl⟩, hnd⟩, hlt⟩, hrest⟩ := hok
  have hnd := nodupB_spec hnd
  have hlt : ∀ i ∈ pi, i < ops.size := fun i hi => by simpa using hlt i hi
  have hpairs' := okPairs_spec hpairs
  refine wp_region_any hm (any_wp hq hc (f := fun i => B.getD i default) ?_ ?_ ops.size (Array.replicate ops.size false) pi hnd hpairs' ?_ (by simp) (by omega) ?_ hgl he R.drew hb hsz e1 ?_)
  · intro i o ho
    have hi : i < ops.size := (Array.getElem?_eq_some_iff.1 ho).1
    obtain ⟨ao, h1, o', ho', hco'⟩ := hall.get i i (by simp [hi])
    rw [Array.getElem?_toList, ho] at ho'
    injection ho' with ho'
    subst ho'
    have hib : i < B.length := by omega
    refine ⟨ao, hco', ?_⟩
    have := hB.2 i B[i] ao (List.getElem?_eq_getElem hib) h1
    simpa [List.getD, hib] using this
  · intro i o ho e hm hbd
    have hi : i < ops.size := (Array.getElem?_eq_some_iff.1 ho).1
    have h1 := (hrest i hi).2
    rw [Array.getElem?_toList, ho] at h1
    simp only [List.all_eq_true, Array.mem_toList_iff, Bool.or_eq_true, Bool.not_eq_true', decide_eq_true_eq] at h1
    rcases h1 e hm with h1 | h1
    · rw [hbd] at h1; simp at h1
    · exact h1
  · intro i
    constructor
    · intro hi; exact ⟨hlt i hi, by simp [hlt i hi]⟩
    · rintro ⟨hi, _⟩; simpa using (hrest i hi).1
  · intro i o ho hl
    have hi : i < ops.size := (Array.getElem?_eq_some_iff.1 ho).1
    simp [hi] at hl
  · intro a' w' G' hreach he' q1 q2
    exact hQ a' w' G' ((⟨Ext.refl G, R.drew, ⟨rfl, rfl, rfl, Nat.le_refl _, fun _ _ => rfl⟩⟩ : Reach G w h _ G).trans hreach) he' q1 q2

theorem code_wp {quiet : FuncId → Nat} {frz : Bool} (hm : P.follows .mixedOrders = true) (hq : QuietOk quiet call) (hc : CallOk P gl call) :
    ∀ {c : Code} {ac : ACode}, comp P gl quiet frz nt c = some ac → CodeOk P gl base nt c (fun en h => evC call base n ac en h) := by
  intro c
  induction c with
  | skip =>
    intro ac hco G en en' h h' a w ex Q hgl he R hb hsz hs hQ
    simp only [comp, Option.some.injEq] at hco
    subst hco
    simp only [evC, Option.some.injEq, Prod.mk.injEq] at hs
    obtain ⟨rfl, rfl, rfl⟩ := hs
    exact wp_skip (hQ a w G (Reach.refl R) he rfl rfl)
  | ret =>
    intro ac hco G en en' h h' a w ex Q hgl he R hb hsz hs hQ
    simp only [comp, Option.some.injEq] at hco
    subst hco
    simp only [evC, Option.some.injEq, Prod.mk.injEq] at hs
    obtain ⟨rfl, rfl, rfl⟩ := hs
    exact wp_ret (hQ a w G (Reach.refl R) he rfl rfl)
  | exit id =>
    intro ac hco G en en' h h' a w ex Q hgl he R hb hsz hs hQ
    simp only [comp, Option.some.injEq] at hco
    subst hco
    simp only [evC, Option.some.injEq, Prod.mk.injEq] at hs
    obtain ⟨rfl, rfl, rfl⟩ := hs
    exact wp_exit (hQ a w G (Reach.refl R) he rfl rfl)
  | seq x y ihx ihy =>
    intro ac hco G en en' h h' a w ex Q hgl he R hb hsz hs hQ
    simp only [comp, Option.bind_eq_some_iff, Option.map_eq_some_iff] at hco
    obtain ⟨ax, hx, ay, hy, rfl⟩ := hco
    simp only [evC] at hs
    refine wp_seq ?_
    split at hs
    · rename_i en1 h1 e1
      refine ihx hx hgl he R hb hsz e1 fun a' w' G' hreach he' q1 q2 => ?_
      refine ihy hy (hgl.ext hreach.ext) he' hreach.rel (Nat.le_trans hb (evC_grow hc hb e1).1) (by omega) hs fun a'' w'' G'' hreach' he'' r1 r2 => ?_
      exact hQ a'' w'' G'' (hreach.trans hreach') he'' (r1.trans q1) (r2.trans q2)
    · rename_i hno
      refine ihx hx hgl he R hb hsz hs fun a' w' G' hreach he' q1 q2 => ?_
      have := hQ a' w' G' hreach he' q1 q2
      cases ex with
      | normal => exact absurd hs (hno en' h')
      | exit id => exact this
      | ret => exact this
  | cond cnd x y ihx ihy =>
    intro ac hco G en en' h h' a w ex Q hgl he R hb hsz hs hQ
    simp only [comp, Option.bind_eq_some_iff, Option.map_eq_some_iff] at hco
    obtain ⟨cc, hcc, ax, hx, ay, hy, rfl⟩ := hco
    simp only [evC] at hs
    split at hs
    · rename_i t ht
      have hrep := opd_rep hgl he hcc
      rw [ht] at hrep
      refine wp_cond (t := t) hrep.sc_inv ?_
      split at hs
      · rename_i htt
        rw [if_pos htt]
        exact ihx hx hgl he R hb hsz hs hQ
      · rename_i htt
        rw [if_neg htt]
        exact ihy hy hgl he R hb hsz hs hQ
    · simp at hs
  | block id x ih =>
    intro ac hco G en en' h h' a w ex Q hgl he R hb hsz hs hQ
    simp only [comp, Option.map_eq_some_iff] at hco
    obtain ⟨ax, hx, rfl⟩ := hco
    simp only [evC] at hs
    refine wp_block ?_
    split at hs
    · rename_i i en1 h1 e1
      refine ih hx hgl he R hb hsz e1 fun a' w' G' hreach he' q1 q2 => ?_
      simp only [Ex.toExit, Exit.inBlock]
      split at hs
      · rename_i hi
        rw [if_pos hi]
        simp only [Option.some.injEq, Prod.mk.injEq] at hs
        obtain ⟨rfl, rfl, rfl⟩ := hs
        exact hQ a' w' G' hreach he' q1 q2
      · rename_i hi
        rw [if_neg hi]
        simp only [Option.some.injEq, Prod.mk.injEq] at hs
        obtain ⟨rfl, rfl, rfl⟩ := hs
        exact hQ a' w' G' hreach he' q1 q2
    · rename_i hno
      refine ih hx hgl he R hb hsz hs fun a' w' G' hreach he' q1 q2 => ?_
      have := hQ a' w' G' hreach he' q1 q2
      cases ex with
      | normal => exact this
      | exit i => exact absurd hs (hno i en' h')
      | ret => exact this
  | loop x ih =>
    intro ac hco G en en' h h' a w ex Q hgl he R hb hsz hs hQ
    simp only [comp, Option.map_eq_some_iff] at hco
    obtain ⟨ax, hx, rfl⟩ := hco
    simp only [evC] at hs
    exact wp_loop_rounds n (iter_wp (ih hx) (fun _ _ _ _ _ hb e => evC_grow hc hb e) n hgl he R hb hsz hs hQ)
  | region id ops draw =>
    intro ac hco G en en' h h' a w ex Q hgl he R hb hsz hs hQ
    simp only [comp, Option.bind_eq_some_iff, Option.some.injEq] at hco
    obtain ⟨aops, hx, rfl⟩ := hco
    cases frz with
    | true =>
      simp only [if_true] at hs
      have fin : ∀ {B : List AOper}, evC call base n (.region B) en h = some (ex, en', h') → (evOps call base B en h).map (fun r => (Ex.normal, r.1, r.2)) = some (ex, en', h') := by
        intro B e
        simp only [evC] at e
        split at e
        · rename_i en1 h1 e1
          rw [e1]; exact e
        · simp at e
      have hall := compOps_all (P := P) (gl := gl) (nt := nt) (all := ops.toList) 0 hx (fun j o hj => by simpa using hj)
      have hlen : aops.length = ops.toList.length := by
        have := hall.length
        simpa using this
      have hoff : ∀ (i : Nat) (y : AOper), aops[i]? = some y → y.off = [] := by
        intro i y hy
        have hi : i < ops.toList.length := by
          have := (List.getElem?_eq_some_iff.1 hy).1
          omega
        obtain ⟨y', hy', o, _, hco⟩ := hall.get i i (by rw [List.getElem?_range' hi]; simp)
        rw [hy] at hy'
        injection hy' with hy'
        subst hy'
        exact (compOper_inv hco).1
      cases draw with
      | false =>
        simp only [regionZ, Bool.not_false, if_true, evC] at hs
        split at hs
        · rename_i en1 h1 e1
          simp only [Option.some.injEq, Prod.mk.injEq] at hs
          obtain ⟨rfl, rfl, rfl⟩ := hs
          refine wp_region ?_
          have hall' : All2 (fun i ao => ∃ o, ops[i]? = some o ∧ Serves P gl nt ops.toList o ao) (List.range ops.size) (aops.map AOper.frz) := by
            rw [List.range_eq_range', ← Array.length_toList]
            refine All2.map_right AOper.frz (All2.mono ?_ hall)
            rintro i ao ⟨o, h1, h2⟩
            exact ⟨o, by rwa [Array.getElem?_toList] at h1, ao, h2, Stands.frz (compOper_inv h2).1⟩
          exact ops_wp hc hall' hgl he R hb hsz e1 hQ
        · simp at hs
      | true =>
        simp only [regionZ, Bool.not_true, Bool.false_eq_true, if_false] at hs
        split at hs
        · rename_i hok
          have hB : (aops.map AOper.frz).length = aops.length ∧ ∀ (i : Nat) (x y : AOper), (aops.map AOper.frz)[i]? = some x → aops[i]? = some y → Stands x y := by
            refine ⟨by simp, fun i x y h1 h2 => ?_⟩
            rw [List.getElem?_map, h2] at h1
            simp only [Option.map_some, Option.some.injEq] at h1
            subst h1
            exact Stands.frz (hoff i y h2)
          have whole : ∀ {B : List AOper} {n : Nat}, B.length = n → takeOrder B (List.range n) = B := by
            intro B n hn
            refine List.ext_getElem (by simp [takeOrder, hn]) fun i h1 h2 => ?_
            simp [takeOrder, List.getD, h2]
          have := fin hs
          rw [← whole (B := aops.map AOper.frz) (n := ops.toList.length) (by rw [List.length_map]; exact hlen)] at this
          exact draw_wp hm hq hc _ hx hB hok hgl he R hb hsz this hQ
        · simp [evC] at hs
    | false =>
    simp only [Bool.false_eq_true, if_false] at hs
    cases draw with
    | false =>
      simp only [regionOf, Bool.not_false, if_true, evC] at hs
      split at hs
      · rename_i en1 h1 e1
        simp only [Option.some.injEq, Prod.mk.injEq] at hs
        obtain ⟨rfl, rfl, rfl⟩ := hs
        refine wp_region ?_
        have hall := compOps_all (P := P) (gl := gl) (nt := nt) (all := ops.toList) 0 hx (fun j o hj => by simpa using hj)
        have hall' : All2 (fun i ao => ∃ o, ops[i]? = some o ∧ Serves P gl nt ops.toList o ao) (List.range ops.size) aops := by
          rw [List.range_eq_range', ← Array.length_toList]
          refine All2.mono ?_ hall
          rintro i ao ⟨o, h1, h2⟩
          exact ⟨o, by rwa [Array.getElem?_toList] at h1, ao, h2, Stands.refl _⟩
        exact ops_wp hc hall' hgl he R hb hsz e1 hQ
      · simp at hs
    | true =>
      have fin : ∀ {B : List AOper}, evC call base n (.region B) en h = some (ex, en', h') → (evOps call base B en h).map (fun r => (Ex.normal, r.1, r.2)) = some (ex, en', h') := by
        intro B e
        simp only [evC] at e
        split at e
        · rename_i en1 h1 e1
          rw [e1]; exact e
        · simp at e
      have hoff : ∀ (i : Nat) (y : AOper), aops[i]? = some y → y.off = [] := by
        intro i y hy
        have hall := compOps_all (P := P) (gl := gl) (nt := nt) (all := ops.toList) 0 hx (fun j o hj => by simpa using hj)
        have hi : i < ops.toList.length := by
          have := hall.length
          simp only [List.length_range'] at this
          have := (List.getElem?_eq_some_iff.1 hy).1
          omega
        obtain ⟨y', hy', o, _, hco⟩ := hall.get i i (by rw [List.getElem?_range' hi]; simp)
        rw [hy] at hy'
        injection hy' with hy'
        subst hy'
        exact (compOper_inv hco).1
      have whole : ∀ {B : List AOper} {n : Nat}, B.length = n → takeOrder B (List.range n) = B := by
        intro B n hn
        refine List.ext_getElem (by simp [takeOrder, hn]) fun i h1 h2 => ?_
        simp [takeOrder, List.getD, h2]
      have hlen : aops.length = ops.toList.length := by
        have hall := compOps_all (P := P) (gl := gl) (nt := nt) (all := ops.toList) 0 hx (fun j o hj => by simpa using hj)
        have := hall.length
        simpa using this
      have mapSt : ∀ (g : AOper → AOper), (∀ y : AOper, y.off = [] → Stands (g y) y) → (aops.map g).length = aops.length ∧ ∀ (i : Nat) (x y : AOper), (aops.map g)[i]? = some x → aops[i]? = some y → Stands x y := by
        intro g hg
        refine ⟨by simp, fun i x y h1 h2 => ?_⟩
        rw [List.getElem?_map, h2] at h1
        simp only [Option.map_some, Option.some.injEq] at h1
        subst h1
        exact hg y (hoff i y h2)
      have same : aops.length = aops.length ∧ ∀ (i : Nat) (x y : AOper), aops[i]? = some x → aops[i]? = some y → Stands x y :=
        ⟨rfl, fun i x y h1 h2 => by rw [h1] at h2; injection h2 with h2; rw [h2]; exact Stands.refl _⟩
      simp only [regionOf, Bool.not_true, Bool.false_eq_true, if_false] at hs
      split at hs
      · rename_i hok
        have := fin hs
        rw [← whole hlen] at this
        exact draw_wp hm hq hc _ hx same hok hgl he R hb hsz this hQ
      · split at hs
        · rename_i hok
          exact draw_wp hm hq hc _ hx same hok hgl he R hb hsz (fin hs) hQ
        · split at hs
          · rename_i hok
            exact draw_wp hm hq hc _ hx (mapSt _ fun y hy => Stands.keep _ hy) hok hgl he R hb hsz (fin hs) hQ
          · split at hs
            · rename_i hok
              have := fin hs
              rw [← whole (B := aops.map AOper.frz) (n := ops.toList.length) (by rw [List.length_map]; exact hlen)] at this
              exact draw_wp hm hq hc _ hx (mapSt _ fun y hy => Stands.frz hy) hok hgl he R hb hsz this hQ
            · simp [evC] at hs
  | rangeFunc f ps asg body ih1 ih2 =>
    intro ac hco G en en' h h' a w ex Q hgl he R hb hsz hs hQ
    simp only [comp, Option.some.injEq] at hco
    subst hco
    simp [evC] at hs
  | scope x ih =>
    intro ac hco G en en' h h' a w ex Q hgl he R hb hsz hs hQ
    simp only [comp, Option.some.injEq] at hco
    subst hco
    simp [evC] at hs
  | label l =>
    intro ac hco G en en' h h' a w ex Q hgl he R hb hsz hs hQ
    simp only [comp, Option.some.injEq] at hco
    subst hco
    simp [evC] at hs
  | goto l =>
    intro ac hco G en en' h h' a w ex Q hgl he R hb hsz hs hQ
    simp only [comp, Option.some.injEq] at hco
    subst hco
    simp [evC] at hs
  | refuse why =>
    intro ac hco G en en' h h' a w ex Q hgl he R hb hsz hs hQ
    simp only [comp, Option.some.injEq] at hco
    subst hco
    simp [evC] at hs

end
end Go.Am
end
