/- Am: a store. -/
import Derived.Test.YtefbdhbfhgapeaaDoorAmMem
namespace Go.Am
open Go.RowKit (Below)

theorem RepL.one {G : Tie} : ∀ {cs : List V} {rs : List Value}, RepL G cs rs → cs.all oneCell = true → ∀ v ∈ rs, v.oneCell' = true
  | [], _, h, _, v, hv => by simp only [RepL] at h; subst h; simp at hv
  | c :: cs, _, h, h1, v, hv => by
    simp only [RepL] at h
    obtain ⟨r, rest, rfl, h2, h3⟩ := h
    simp only [List.all_cons, Bool.and_eq_true] at h1
    simp only [List.mem_cons] at hv
    rcases hv with rfl | hv
    · exact h2.one h1.1
    · exact RepL.one h3 h1.2 v hv

theorem putCells_length {cs new : List V} {off : Nat} (h : off + new.length ≤ cs.length) : (putCells cs off new).length = cs.length := by
  unfold putCells
  simp
  omega

theorem RepL.put {G : Tie} {cs new : List V} {rs ns : List Value} {off : Nat} (h : RepL G cs rs) (k : RepL G new ns) : RepL G (putCells cs off new) (rs.take off ++ ns ++ rs.drop (off + ns.length)) := by
  unfold putCells
  rw [k.length]
  exact ((h.take off).append k).append (h.drop _)

theorem all_put {cs new : List V} {off : Nat} {p : V → Bool} (h : cs.all p = true) (k : new.all p = true) : (putCells cs off new).all p = true := by
  unfold putCells
  simp only [List.all_append, Bool.and_eq_true]
  refine ⟨⟨?_, k⟩, ?_⟩
  · rw [List.all_eq_true] at h ⊢
    exact fun x hx => h x (List.mem_of_mem_take hx)
  · rw [List.all_eq_true] at h ⊢
    exact fun x hx => h x (List.mem_of_mem_drop hx)

theorem getElem?_put {α : Type} (cs new : List α) (off j : Nat) (h : off + new.length ≤ cs.length) :
    (cs.take off ++ new ++ cs.drop (off + new.length))[j]? = if off ≤ j ∧ j < off + new.length then new[j - off]? else cs[j]? := by
  have ht : (cs.take off).length = off := by simp; omega
  by_cases h1 : j < off
  · rw [if_neg (by omega), List.append_assoc, List.getElem?_append_left (by omega), List.getElem?_take_of_lt h1]
  · by_cases h2 : j < off + new.length
    · rw [if_pos (by omega), List.getElem?_append_left (by simp; omega), List.getElem?_append_right (by omega), ht]
    · rw [if_neg (by omega), List.getElem?_append_right (by simp; omega)]
      simp only [List.length_append, ht, List.getElem?_drop]
      congr 1
      omega

/-- A part of an element turned: the row's cells. -/
theorem RepBlk.put {G : Tie} {sz : Nat} {rs : Array Value} {rows : List (List V)} (hB : RepBlk G sz rs rows) (hpos : 0 < sz) {i off : Nat} {cs new : List V} {ns : List Value}
    (hi : rows[i]? = some cs) (hk : RepL G new ns) (h1 : new.all oneCell = true) (hle : off + new.length ≤ cs.length) (hsz : i * sz + sz ≤ rs.size) :
    RepBlk G sz (rs.toList.take (i * sz + off) ++ ns ++ rs.toList.drop (i * sz + off + ns.length)).toArray (rows.set i (putCells cs off new)) := by
  obtain ⟨hl, hone, hcell⟩ := hB i cs hi
  have hlen : i < rows.length := (List.getElem?_eq_some_iff.1 hi).1
  have hnl := hk.length
  intro i' cs' hi'
  by_cases e : i' = i
  · subst e
    rw [List.getElem?_set_self hlen] at hi'
    injection hi' with hi'
    subst hi'
    refine ⟨by rw [putCells_length hle]; exact hl, all_put hone h1, fun j c hc => ?_⟩
    rw [List.getElem?_toArray, getElem?_put _ _ _ _ (by simp; omega)]
    unfold putCells at hc
    rw [getElem?_put _ _ _ _ hle] at hc
    by_cases hj : off ≤ j ∧ j < off + new.length
    · rw [if_pos hj] at hc
      rw [if_pos (by omega)]
      obtain ⟨r, h2, h3⟩ := hk.get hc
      exact ⟨r, by rw [show i' * sz + j - (i' * sz + off) = j - off by omega]; exact h2, h3⟩
    · rw [if_neg hj] at hc
      rw [if_neg (by omega)]
      obtain ⟨v, hv, hr⟩ := hcell j c hc
      exact ⟨v, by rw [Array.getElem?_toList]; exact hv, hr⟩
  · rw [List.getElem?_set_ne (by omega)] at hi'
    obtain ⟨h2, h3, h4⟩ := hB i' cs' hi'
    refine ⟨h2, h3, fun j c hc => ?_⟩
    obtain ⟨v, hv, hr⟩ := h4 j c hc
    refine ⟨v, ?_, hr⟩
    have hjlt : j < sz := by rw [← h2]; exact (List.getElem?_eq_some_iff.1 hc).1
    rw [List.getElem?_toArray, getElem?_put _ _ _ _ (by simp; omega), if_neg, Array.getElem?_toList]
    · exact hv
    · rcases Nat.lt_or_ge i' i with hlt | hge
      · have : (i' + 1) * sz ≤ i * sz := Nat.mul_le_mul_right _ hlt
        rw [Nat.add_mul] at this
        omega
      · have : (i + 1) * sz ≤ i' * sz := Nat.mul_le_mul_right _ (by omega)
        rw [Nat.add_mul] at this
        omega

theorem row_room {sz cp n i : Nat} {rs : Array Value} (hs : rs.size = cp * sz) (hn : n ≤ cp) (hi : i < n) : i * sz + sz ≤ rs.size := by
  have : (i + 1) * sz ≤ cp * sz := Nat.mul_le_mul_right _ (by omega)
  rw [Nat.add_mul] at this
  omega

theorem store_run {P : Program} {G : Tie} {h h' : Heap} {w : World} (R : Rel G h w) {t : TypeId} {n base : Nat} (hn : sizeO P t = some n) {a x : V} {ra rx : Value}
    (ha : RepV G a ra) (hx : RepV G x rx) (hst : storeV base h n a x = some h') : ∃ w', (Instr.storeAt t ra rx).run P w = .ok () w' ∧ Rel G h' w' ∧ Below G.b0 w w' := by
  unfold storeV at hst
  split at hst
  case isFalse => simp at hst
  rename_i hc
  obtain ⟨hlen, hone⟩ := hc
  have hxu : x ≠ .undef := by
    rintro rfl
    simp [V.cells, oneCell] at hone
  have hcells := hx.cells hxu
  have hsz : (sizeOf t).run P w = .ok n w := by
    simp only [sizeO, Option.map_eq_some_iff] at hn
    obtain ⟨i, hi, hm⟩ := hn
    simp [sizeOf, typeInfo, hi, hm]
  have hrl : rx.cells.size = n := by rw [← Array.length_toList, hcells.length, hlen]
  have hro := hcells.one hone
  split at hst
  · rename_i b off
    split at hst
    · rename_i cs eq
      split at hst
      · rename_i hle
        injection hst with hst
        subst hst
        obtain ⟨hle, _⟩ := hle
        simp only [RepV] at ha
        obtain ⟨hb, rfl⟩ := ha
        obtain ⟨h1, rs, hw, hl⟩ := R.box _ _ _ eq
        have hstore := run_storeCells_at (P := P) (G.bx b) off _ rx.cells.toList 0 rs w hw (by
          have := hl.length
          simp only [Array.length_toList] at this
          simp; omega) hro
        refine ⟨_, ?_, R.setBox (cs' := putCells cs off x.cells) (rs' := (rs.toList.take (off + 0) ++ rx.cells.toList ++ rs.toList.drop (off + 0 + rx.cells.toList.length)).toArray) eq hw (all_put h1 hone) ?_, below_setRow _ _ _ _ (R.low b _ (by unfold Tie.real; rw [eq])).1⟩
        · simp [Instr.storeAt, Instr.sureAddr, storeVar, hsz, hrl]
          simpa [hrl] using hstore
        · simpa using hl.put hcells
      · simp at hst
    · simp at hst
  · rename_i b e i off
    split at hst
    · rename_i sz e' rows eq
      split at hst
      · rename_i he
        subst he
        split at hst
        · rename_i cs hi
          split at hst
          · rename_i hle
            injection hst with hst
            subst hst
            obtain ⟨hle, _⟩ := hle
            simp only [RepV] at ha
            obtain ⟨hb, a, rfl, ha⟩ := ha
            obtain ⟨hpos, L, rs, hL, hLe, hLs, hcp, hw, hs, hB⟩ := R.row _ _ _ _ _ eq
            have := (ha L hL).2 hLe.symm
            subst this
            have hroom := row_room hs hcp ((List.getElem?_eq_some_iff.1 hi).1)
            have hcl := (hB i cs hi).1
            rw [hLs]
            have hstore := run_storeCells_at (P := P) L.blk (i * sz + off) _ rx.cells.toList 0 rs w hw (by
              simp only [Array.length_toList, Nat.add_zero]
              omega) hro
            refine ⟨w.setRow L.blk (rs.toList.take (i * sz + off) ++ rx.cells.toList ++ rs.toList.drop (i * sz + off + rx.cells.toList.length)).toArray, ?_, ?_, below_setRow _ _ _ _ (R.low b _ (by unfold Tie.real; rw [eq]; simp [hL])).1⟩
            · simp [Instr.storeAt, Instr.sureAddr, storeVar, hsz, hrl]
              simpa [hrl] using hstore
            · have := R.setRowAt (rows' := rows.set i (putCells cs off x.cells)) (L' := L) (w' := w.setRow L.blk (rs.toList.take (i * sz + off) ++ rx.cells.toList ++ rs.toList.drop (i * sz + off + rx.cells.toList.length)).toArray)
                (rs' := (rs.toList.take (i * sz + off) ++ rx.cells.toList ++ rs.toList.drop (i * sz + off + rx.cells.toList.length)).toArray)
                eq hL (Nat.le_refl _) (fun _ => rfl) hLe hLs (by simpa using hcp) (.inl rfl) (by simp) (fun c hc _ => setRow_other w _ _ _ hc) (setRow_heap w _ _ _ _ _ hw)
                (by simp; omega) (hB.put hpos hi hcells hone (by omega) hroom)
              rwa [Tie.setRow_same hL] at this
          · split at hst
            · rename_i hle
              injection hst with hst
              subst hst
              obtain ⟨rfl, hle, _⟩ := hle
              simp only [RepV] at ha
              obtain ⟨hb, a, rfl, ha⟩ := ha
              obtain ⟨hpos, L, rs, hL, hLe, hLs, hcp, hw, hs, hB⟩ := R.row _ _ _ _ _ eq
              have := (ha L hL).2 hLe.symm
              subst this
              have hfl := flat_length hB
              have hmul : rows.length * sz ≤ L.cp * sz := Nat.mul_le_mul_right _ hcp
              rw [Nat.zero_mul, Nat.zero_add]
              have hstore := run_storeCells_at (P := P) L.blk off _ rx.cells.toList 0 rs w hw (by
                simp only [Array.length_toList, Nat.add_zero]
                omega) hro
              refine ⟨w.setRow L.blk (rs.toList.take off ++ rx.cells.toList ++ rs.toList.drop (off + rx.cells.toList.length)).toArray, ?_, ?_, below_setRow _ _ _ _ (R.low b _ (by unfold Tie.real; rw [eq]; simp [hL])).1⟩
              · simp [Instr.storeAt, Instr.sureAddr, storeVar, hsz, hrl]
                simpa [hrl] using hstore
              · have := R.setRowAt (rows' := chunk sz (putCells rows.flatten off x.cells)) (L' := L) (w' := w.setRow L.blk (rs.toList.take off ++ rx.cells.toList ++ rs.toList.drop (off + rx.cells.toList.length)).toArray)
                  (rs' := (rs.toList.take off ++ rx.cells.toList ++ rs.toList.drop (off + rx.cells.toList.length)).toArray)
                  eq hL (Nat.le_refl _) (fun _ => rfl) hLe hLs (by rw [chunk_length, putCells_length (by omega), hfl, Nat.mul_div_cancel _ hpos]; exact hcp) (.inl rfl) (by simp) (fun c hc _ => setRow_other w _ _ _ hc) (setRow_heap w _ _ _ _ _ hw)
                  (by simp; omega) (chunk_blk hpos (all_put (flat_one hB) hone) fun p c hc => ?_)
                · rwa [Tie.setRow_same hL] at this
                · rw [List.getElem?_toArray, getElem?_put _ _ _ _ (by simp; omega)]
                  unfold putCells at hc
                  rw [getElem?_put _ _ _ _ (by omega)] at hc
                  have hcl := hcells.length
                  split at hc
                  · rename_i hj
                    rw [if_pos (by omega)]
                    exact hcells.get hc
                  · rename_i hj
                    rw [if_neg (by omega), Array.getElem?_toList]
                    exact RepBlk.flat hB p c hc
            · simp at hst
        · simp at hst
      · simp at hst
    · simp at hst
  · simp at hst

end Go.Am
