/- The abstract machine and what is proved in it, part 4. -/
import Derived.Test.YtbeaelflokcdjaaGreatDoorAm3
import Derived.Laws.Tables
import Derived.Laws.MakeOwn
import Derived.Lib.Builder
import Derived.Lib.UnsafeStr
import Derived.LaidEql
set_option linter.unusedVariables false
set_option linter.unusedSimpArgs false
namespace Go.Am
section
open Go.RowKit (Below)
section
variable {P : Program} {G : Tie} {w : World}
theorem Rel.drew {G : Tie} {h : Heap} {w : World} (R : Rel G h w) : Rel G h w.drew := R.world (Nat.le_refl _) (fun _ _ => rfl)
theorem grown_size {olds news : List Value} {z : Value} {sz n m cap : Nat} (h1 : olds.length = n * sz) (h2 : news.length = m * sz) (h3 : z.cells.size = sz) (h4 : n + m ≤ cap) :
    (olds ++ news ++ (Builtin.zeroCells z.cells (cap - (n + m))).toList).toArray.size = cap * sz := by
  simp only [List.size_toArray, List.length_append, Array.length_toList, size_zeroCells, h1, h2, h3, ← Nat.add_mul]
  congr 1
  omega
theorem newOk_inv {sz : Nat} {new : List (List V)} (h : newOk sz new = true) : ∀ r ∈ new, r.length = sz ∧ r.all zm = true := by
  intro r hr
  unfold newOk at h
  rw [List.all_eq_true] at h
  have := h r hr
  simpa using this
theorem ground_one {r : List V} (h : r.all ground = true) : r.all zm = true := by
  rw [List.all_eq_true] at h ⊢
  intro v hv
  have := h v hv
  cases v <;> simp_all [ground, zm]
theorem append_run {h h' : Heap} (R : Rel G h w) {t u ty e : TypeId} {sz base : Nat} {s x v : V} {rs rx : Value} {new : List (List V)} (ht : P.underlying t = some (.slice e))
    (hu : P.underlying u = some .string ∨ ∃ e', P.underlying u = some (.slice e')) (hg : growElem P e = some sz) (hs : RepV G s rs) (hx : RepV G x rx) (hsrc : srcRows sz h x = some new)
    (hv : appendV base h e sz s new = some (v, h')) :
    ∃ r w' G', (Builtin.append_ #[t, u] ty #[rs, rx]).run P w = .ok r w' ∧ Ext G G' ∧ Rel G' h' w' ∧ RepV G' v r ∧ Bel G w w' := by
  obtain ⟨i, z, hi, hz, rfl, hpos, hby, hzs⟩ := growElem_inv hg
  obtain ⟨news, hnf, hlen, hfirst⟩ := src_run R hx hsrc
  have hnl : news.length = new.length * i.size := hnf.1
  have hff : ∀ w2 : World, w2.heap = w.heap → (Builtin.firstCells i.size new.length rx).run P w2 = .ok news.toArray w2 := by
    intro w2 h2
    have := hfirst w2 new.length h2 (Nat.le_refl _)
    rwa [← hnl, List.take_length] at this
  unfold appendV at hv
  split at hv
  · -- nothing is appended
    simp only [Option.map_eq_some_iff, Prod.mk.injEq] at hv
    obtain ⟨rows, hel, rfl, rfl⟩ := hv
    have hn0 : news = [] := List.eq_nil_of_length_eq_zero (by simpa using hnl)
    subst hn0
    obtain ⟨a, cap, olds, rfl, hlc, _, _⟩ := elems_run R hs hel
    refine ⟨_, w, G, append_room_raw (n := 0) (news := []) ht hu hi (hlen w) (hff w rfl) hlc (fun b _ => rfl) (fun _ => rfl), Ext.refl G, R, hs, Bel.refl _ _⟩
  · rename_i n0 nr
    generalize hnew : n0 :: nr = new at *
    have hnpos : 0 < new.length := by rw [← hnew]; simp
    clear hnew
    -- a new row
    have hfresh : ∀ (rows : List (List V)) (a : Option Addr) (cap : Nat) (olds : List Value), rs = .slice a rows.length cap → RepFlat G i.size rows olds → (∀ r ∈ rows, r.all zm = true) →
        (∀ w2 : World, w2.heap = w.heap → (Builtin.firstCells i.size rows.length (.slice a rows.length cap)).run P w2 = .ok olds.toArray w2) → cap < rows.length + new.length →
        rows.length + new.length ≤ lim → newOk i.size new = true →
        ∃ r w', (Builtin.append_ #[t, u] ty #[rs, rx]).run P w = .ok r w' ∧ ∃ cells cp, w' = (w.drew.alloc (.cells cells e (0, 0))) ∧ cells.size = cp * i.size ∧ rows.length + new.length ≤ cp ∧
          RepBlk G i.size cells (rows ++ new) ∧ r = .slice (some ⟨w.heap.size, 0, none⟩) (rows.length + new.length) cp := by
      intro rows a cap olds hrs hfl hone hfo hroom hlim hok
      subst hrs
      have hok' := newOk_inv hok
      have hrun := append_grow_raw (P := P) (w := w) (ty := ty) ht hu hi hz (hlen w) (hff w.drew rfl) (hfo w.drew rfl) hroom hby hlim
      refine ⟨_, _, hrun, _, grownCap w (rows.length + new.length) cap e, rfl, grown_size hfl.1 hnl hzs (grownCap_ge _ _ _ _), grownCap_ge _ _ _ _, ?_, rfl⟩
      refine (hfl.append hnf).blk ?_
      intro r hr
      rcases List.mem_append.1 hr with hr | hr
      · exact hone r hr
      · exact (hok' r hr).2
    split at hv
    · -- nil
      split at hv
      · rename_i hc
        injection hv with hv
        simp only [Prod.mk.injEq] at hv
        obtain ⟨rfl, rfl⟩ := hv
        obtain rfl := hs.sc_inv
        obtain ⟨r, w', hrun, cells, cp, rfl, hcs, hcp, hB, rfl⟩ := hfresh [] none 0 [] rfl ⟨by simp, by simp⟩ (by simp) (fun w2 _ => by simp [Builtin.firstCells]) (by simpa using hnpos) (by simpa using hc.1) hc.2
        simp only [List.length_nil, Nat.zero_add, List.nil_append] at hcp hB hrun
        refine ⟨_, _, _, hrun, Ext.newRow G ⟨0, i.size, w.heap.size, cp⟩, ?_, ?_, bel_drew_alloc R _⟩
        · exact R.drew.newRow e hpos hcp hcs hB
        · simp only [RepV]
          refine ⟨by simp [Tie.newRow, R.n], _, _, rfl, fun L hL => ?_⟩
          simp only [Tie.newRow, R.n, if_true, Option.some.injEq] at hL
          subst hL
          exact ⟨Nat.le_refl _, fun _ => ⟨hcp, by simp, fun _ => by simp⟩⟩
      · simp at hv
    · -- a literal
      rename_i ex zz rows
      split at hv
      · rename_i hc
        simp only [Bool.and_eq_true, decide_eq_true_eq] at hc
        injection hv with hv
        simp only [Prod.mk.injEq] at hv
        obtain ⟨rfl, rfl⟩ := hv
        have hel : elems i.size h (.slc ex zz rows) = some rows := by
          unfold elems
          simp only [hc.1.1.2, if_true]
        have hs' := hs
        simp only [RepV] at hs
        obtain ⟨a, cap, rfl, hl, hex, hgr, _⟩ := hs
        have hcap := hex hc.1.1.1
        subst hcap
        obtain ⟨olds, hfl, _, hfo⟩ := src_run R hs' (sz := i.size) (new := rows) (by simpa [srcRows] using hel)
        have hone : ∀ r ∈ rows, r.all zm = true := fun r hr => ground_one ((List.all_eq_true.1 hgr) r hr)
        obtain ⟨r, w', hrun, cells, cp, rfl, hcs, hcp, hB, rfl⟩ := hfresh rows a rows.length olds rfl hfl hone
          (fun w2 h2 => by have := hfo w2 rows.length h2 (Nat.le_refl _); rwa [← hfl.1, List.take_length] at this) (by omega) hc.1.2 hc.2
        refine ⟨_, _, _, hrun, Ext.newRow G ⟨0, i.size, w.heap.size, cp⟩, ?_, ?_, bel_drew_alloc R _⟩
        · exact R.drew.newRow e hpos (by simpa using hcp) hcs hB
        · simp only [RepV]
          refine ⟨by simp [Tie.newRow, R.n], _, _, rfl, fun L hL => ?_⟩
          simp only [Tie.newRow, R.n, if_true, Option.some.injEq] at hL
          subst hL
          exact ⟨Nat.le_refl _, fun _ => ⟨hcp, by simp, fun _ => by simp⟩⟩
      · simp at hv
    · rename_i b ep len
      split at hv
      · rename_i uu zz e' rows eq
        split at hv
        · rename_i hc
          obtain ⟨rfl, rfl, rfl, hle, hlim, hok, hms⟩ := hc
          injection hv with hv
          simp only [Prod.mk.injEq] at hv
          obtain ⟨rfl, rfl⟩ := hv
          have hs' := hs
          simp only [RepV] at hs
          obtain ⟨hb, a, cap, rfl, hLx⟩ := hs
          obtain ⟨_, L, cur, hL, hLe, hLs, hcp, hw, hsz, hB⟩ := R.row _ _ _ _ _ eq
          obtain ⟨_, hk2⟩ := hLx L hL
          obtain ⟨hlc, hoc, haa⟩ := hk2 hLe.symm
          simp only [Nat.zero_add, Nat.zero_mul] at hoc haa
          have hok' := newOk_inv hok
          have hel : elems i.size h (.hsl b e' 0 len) = some (rows.take len) := by
            unfold elems rowAt
            simp [eq, hle]
          have htl : (rows.take len).length = len := by simp; omega
          obtain ⟨olds, hfl, _, hfo⟩ := src_run R hs' (sz := i.size) (new := rows.take len) (by simpa [srcRows] using hel)
          have hone : ∀ r ∈ rows.take len, r.all zm = true := by
            intro r hr
            obtain ⟨k, hk⟩ := List.getElem?_of_mem (List.mem_of_mem_take hr)
            exact (hB k r hk).2.1
          by_cases hroom : len + new.length ≤ cap
          · -- in its place
            have haddr := haa (by omega)
            subst haddr
            have hcells : len * i.size + news.length ≤ cur.size := by
              rw [hnl, hsz, ← Nat.add_mul]
              exact Nat.mul_le_mul_right _ (by omega)
            have hst := run_storeCells_at (P := P) L.blk (len * i.size) uu news 0 cur w hw (by simpa using hcells) (hnf.one fun r hr => (hok' r hr).2)
            simp only [Nat.add_zero] at hst
            have hrun := append_room_raw (P := P) (w := w) (ty := ty) (a := some ⟨L.blk, 0, none⟩) (cap := cap) ht hu hi (hlen w) (hff w rfl) hroom
              (fun b hb => by injection hb with hb; subst hb; rw [add_none, Nat.zero_add]; exact hst) (fun h => by simp at h)
            refine ⟨_, _, G.setRow b { L with e := e' + 1 }, hrun, Ext.setRow G b L _ hL (by simp; omega) (by simp; omega), ?_, ?_, bel_setRow R (b := b) (by unfold Tie.real; rw [eq]; simp [hL]) _⟩
            · refine R.setRowAt (L' := { L with e := e' + 1 }) eq hL (by simp; omega) (by simp; omega) rfl hLs (by simp; omega) (.inl rfl) (by simp) (fun c hc _ => setRow_other w _ _ _ hc) (setRow_heap w _ _ _ _ _ hw) ?_ ?_
              · simp only [List.size_toArray, List.length_append, List.length_take, List.length_drop, Array.length_toList]
                rw [← hsz]
                omega
              · intro k cs hk
                by_cases hkl : k < len
                · rw [List.getElem?_append_left (by omega), List.getElem?_take, if_pos hkl] at hk
                  obtain ⟨h1, h2, h3⟩ := hB k cs hk
                  refine ⟨h1, h2, fun j c hj => ?_⟩
                  obtain ⟨v, h4, h5⟩ := h3 j c hj
                  refine ⟨v, ?_, h5⟩
                  have hjl := (List.getElem?_eq_some_iff.1 hj).1
                  have : (k + 1) * i.size ≤ len * i.size := Nat.mul_le_mul_right _ (by omega)
                  rw [Nat.add_mul] at this
                  rw [List.getElem?_toArray, getElem?_put _ _ _ _ (by simp; omega), if_neg (by omega), Array.getElem?_toList]
                  exact h4
                · rw [List.getElem?_append_right (by omega), htl] at hk
                  obtain ⟨h1, h3⟩ := hnf.2 _ cs hk
                  refine ⟨h1, (hok' cs (List.mem_of_getElem? hk)).2, fun j c hj => ?_⟩
                  obtain ⟨v, h4, h5⟩ := h3 j c hj
                  refine ⟨v, ?_, h5⟩
                  have hjl := (List.getElem?_eq_some_iff.1 hj).1
                  have hge : len * i.size ≤ k * i.size := Nat.mul_le_mul_right _ (by omega)
                  have hsub : (k - len) * i.size = k * i.size - len * i.size := Nat.sub_mul _ _ _
                  have hlt := (List.getElem?_eq_some_iff.1 h4).1
                  rw [List.getElem?_toArray, getElem?_put _ _ _ _ (by simp; omega), if_pos (by omega), show k * i.size + j - len * i.size = (k - len) * i.size + j by omega]
                  exact h4
            · simp only [RepV]
              refine ⟨hb, _, _, rfl, fun L' hL' => ?_⟩
              simp only [Tie.setRow, if_true, Option.some.injEq] at hL'
              subst hL'
              exact ⟨Nat.le_refl _, fun _ => ⟨hroom, by simpa using hoc, fun _ => by simp⟩⟩
          · -- at a new place
            obtain ⟨r, w', hrun, cells, cp, rfl, hcs, hcp', hB', rfl⟩ := hfresh (rows.take len) (some a) cap olds (by rw [htl]) hfl hone
              (fun w2 h2 => by have := hfo w2 len h2 (by omega); rw [htl]; rwa [← htl, ← hfl.1, List.take_length, htl] at this) (by omega) (by omega) hok
            rw [htl] at hcp'
            refine ⟨_, _, G.setRow b ⟨e' + 1, i.size, w.heap.size, cp⟩, hrun, Ext.setRow G b L _ hL (by simp; omega) (by simp; omega), ?_, ?_, bel_drew_alloc R _⟩
            · exact R.drew.setRowAt (L' := ⟨e' + 1, i.size, w.heap.size, cp⟩) eq hL (by simp; omega) (by simp; omega) rfl rfl (by simp; omega) (.inr rfl) (by simp) (fun c _ hc => heap_alloc_lt _ _ _ hc)
                (heap_alloc_eq w.drew _) hcs hB'
            · simp only [RepV, htl]
              refine ⟨hb, _, _, rfl, fun L' hL' => ?_⟩
              simp only [Tie.setRow, if_true, Option.some.injEq] at hL'
              subst hL'
              exact ⟨Nat.le_refl _, fun _ => ⟨hcp', by simp, fun _ => by simp⟩⟩
        · simp at hv
      · simp at hv
    · simp at hv
theorem RepFlat.take {sz : Nat} {rows : List (List V)} {rs : List Value} (h : RepFlat G sz rows rs) {k : Nat} (hk : k ≤ rows.length) : RepFlat G sz (rows.take k) (rs.take (k * sz)) := by
  have hm : k * sz ≤ rows.length * sz := Nat.mul_le_mul_right _ hk
  refine ⟨by rw [List.length_take, List.length_take, h.1, Nat.min_eq_left hk, Nat.min_eq_left hm], fun i cs hi => ?_⟩
  rw [List.getElem?_take] at hi
  split at hi
  · rename_i hik
    obtain ⟨h1, h2⟩ := h.2 i cs hi
    refine ⟨h1, fun j c hj => ?_⟩
    obtain ⟨v, h3, h4⟩ := h2 j c hj
    refine ⟨v, ?_, h4⟩
    have hjl : j < sz := by rw [← h1]; exact (List.getElem?_eq_some_iff.1 hj).1
    have : (i + 1) * sz ≤ k * sz := Nat.mul_le_mul_right _ hik
    rw [Nat.add_mul] at this
    rw [List.getElem?_take, if_pos (by omega)]
    exact h3
  · simp at hi
theorem slcLen_run {d : V} {rd : Value} {m : Nat} (hd : RepV G d rd) (hm : zk d = some m) : ∃ a cap, rd = .slice a m cap := by
  unfold zk at hm
  split at hm
  · injection hm with hm
    subst hm
    simp only [RepV] at hd
    obtain ⟨a, cap, rfl, _⟩ := hd
    exact ⟨a, cap, rfl⟩
  · injection hm with hm
    subst hm
    simp only [RepV] at hd
    obtain ⟨_, a, cap, rfl, _⟩ := hd
    exact ⟨_, cap, rfl⟩
  · injection hm with hm
    subst hm
    exact ⟨_, _, hd.sc_inv⟩
  · simp at hm
theorem copy_raw {t u ty e : TypeId} {i : TypeInfo} {a : Option Addr} {m cap n : Nat} {rx : Value} {cells : List Value} {w' : World} (ht : P.underlying t = some (.slice e)) (hi : P.info? e = some i)
    (hl : (Builtin.lenOf rx).run P w = .ok n w) (hc : (Builtin.firstCells i.size (min n m) rx).run P w = .ok cells.toArray w)
    (hst : ∀ b, a = some b → (storeCells b cells 0).run P w = .ok () w') (hnone : a = none → w' = w) :
    (Builtin.copy_ #[t, u] ty #[.slice a m cap, rx]).run P w = .ok (goInt ((min n m : Nat) : Int)) w' := by
  have hmin : Nat.min n m = min n m := rfl
  cases a with
  | none =>
    have := hnone rfl
    subst this
    simp [Builtin.copy_, run_underlying ht, hl, sizeOf, typeInfo, hi, hmin, hc]
  | some b =>
    have := hst b rfl
    simp [Builtin.copy_, run_underlying ht, hl, sizeOf, typeInfo, hi, hmin, hc, this]
theorem copy_run {h h' : Heap} (R : Rel G h w) {t u ty e : TypeId} {sz base k : Nat} {d x : V} {rd rx : Value} {new : List (List V)} (ht : P.underlying t = some (.slice e)) (hg : growElem P e = some sz)
    (hd : RepV G d rd) (hx : RepV G x rx) (hn : srcRows sz h x = some new) (hs : copyV base h sz d new = some (k, h')) :
    ∃ w', (Builtin.copy_ #[t, u] ty #[rd, rx]).run P w = .ok (goInt k) w' ∧ Rel G h' w' ∧ Bel G w w' := by
  obtain ⟨i, z, hi1, hz1, rfl, hpos, _, hzs⟩ := growElem_inv hg
  obtain ⟨news, hflat, hlen, hfirst⟩ := src_run (P := P) R hx hn
  unfold copyV at hs
  split at hs
  · simp at hs
  · rename_i m hm
    obtain ⟨a, cap, rfl⟩ := slcLen_run hd hm
    split at hs
    · rename_i h0
      simp only [Option.some.injEq, Prod.mk.injEq] at hs
      obtain ⟨rfl, rfl⟩ := hs
      refine ⟨w, ?_, R, Bel.refl _ _⟩
      have := copy_raw (P := P) (w := w) (w' := w) (u := u) (ty := ty) (a := a) (m := m) (cap := cap) (cells := []) ht hi1 (hlen w) (by rw [h0, hfirst w 0 rfl (Nat.zero_le _)]; simp) (fun b _ => by simp [storeCells]) (fun _ => rfl)
      rwa [h0] at this
    · rename_i hne
      split at hs
      · rename_i b ep off len
        simp only [zk, Option.some.injEq] at hm
        subst hm
        split at hs
        · rename_i ty' z' e' rows eq
          split at hs
          · rename_i hc
            obtain ⟨rfl, rfl, hol, hok, _⟩ := hc
            simp only [Option.some.injEq, Prod.mk.injEq] at hs
            obtain ⟨rfl, rfl⟩ := hs
            obtain ⟨_, L, rs, hL, hLe, hLs, hcp, hw, hsz, hB⟩ := R.row _ _ _ _ _ eq
            simp only [RepV] at hd
            obtain ⟨hb, a', cap', hr, hLx⟩ := hd
            simp only [Value.slice.injEq] at hr
            obtain ⟨rfl, _, rfl⟩ := hr
            obtain ⟨h1, h2⟩ := hLx L hL
            obtain ⟨h3, h4, h5⟩ := h2 hLe.symm
            have ha := h5 (by omega)
            rw [hLs] at ha
            subst ha
            have hkl : min new.length len ≤ new.length := Nat.min_le_left _ _
            have hkl2 : min new.length len ≤ len := Nat.min_le_right _ _
            have hfl := hflat.take hkl
            have hone := hfl.one fun r hr => (newOk_inv hok r hr).2
            have hfc := hfirst w (min new.length len) rfl hkl
            generalize hk : min new.length len = k at hne hok hkl hkl2 hfl hone hfc ⊢
            have htl : (new.take k).length = k := by rw [List.length_take]; omega
            have hcl : (news.take (k * i.size)).length = k * i.size := by rw [hfl.1, htl]
            have hroom : (off + k) * i.size ≤ L.cp * i.size := Nat.mul_le_mul_right _ (by omega)
            rw [Nat.add_mul] at hroom
            have hstore := run_storeCells_at (P := P) L.blk (off * i.size) ty' (news.take (k * i.size)) 0 rs w hw (by rw [hcl, hsz]; omega) hone
            have hrun := copy_raw (P := P) (w := w) (u := u) (ty := ty) (a := some ⟨L.blk, off * i.size, none⟩) (m := len) (cap := cap) (cells := news.take (k * i.size)) ht hi1 (hlen w) (by rw [hk]; exact hfc) (fun b hb => by
              injection hb with hb
              subst hb
              exact hstore) (by simp)
            rw [hk] at hrun
            refine ⟨_, hrun, ?_, bel_setRow R (b := b) (by unfold Tie.real; rw [eq]; simp [hL]) _⟩
            have := R.setRowAt (rows' := rows.take off ++ new.take k ++ rows.drop (off + (new.take k).length)) (L' := L) (w' := w.setRow L.blk (rs.toList.take (off * i.size + 0) ++ news.take (k * i.size) ++ rs.toList.drop (off * i.size + 0 + (news.take (k * i.size)).length)).toArray)
              (rs' := (rs.toList.take (off * i.size + 0) ++ news.take (k * i.size) ++ rs.toList.drop (off * i.size + 0 + (news.take (k * i.size)).length)).toArray)
              eq hL (Nat.le_refl _) (fun _ => rfl) hLe hLs (by
                simp only [List.length_append, List.length_take, List.length_drop]
                omega) (.inl rfl) (by simp) (fun c hc _ => setRow_other w _ _ _ hc) (setRow_heap w _ _ _ _ _ hw)
              (by
                simp only [List.size_toArray, List.length_append, List.length_take, List.length_drop, Array.length_toList, hsz, hflat.1]
                have : k * i.size ≤ new.length * i.size := Nat.mul_le_mul_right _ hkl
                omega) ?_
            · rwa [Tie.setRow_same hL] at this
            · intro i' cs hi'
              rw [getElem?_put _ _ _ _ (by rw [htl]; omega), htl] at hi'
              have hget : ∀ p, (rs.toList.take (off * i.size + 0) ++ news.take (k * i.size) ++ rs.toList.drop (off * i.size + 0 + (news.take (k * i.size)).length)).toArray[p]? =
                  if off * i.size ≤ p ∧ p < off * i.size + k * i.size then (news.take (k * i.size))[p - off * i.size]? else rs[p]? := by
                intro p
                rw [List.getElem?_toArray, Nat.add_zero, getElem?_put _ _ _ _ (by rw [hcl]; simp only [Array.length_toList]; omega), hcl, Array.getElem?_toList (xs := rs)]
              split at hi'
              · rename_i hin
                obtain ⟨q1, q2⟩ := hfl.2 _ cs hi'
                refine ⟨q1, (newOk_inv hok cs (List.mem_of_getElem? hi')).2, fun j c hj => ?_⟩
                obtain ⟨v, q3, q4⟩ := q2 j c hj
                refine ⟨v, ?_, q4⟩
                have hjl : j < i.size := by rw [← q1]; exact (List.getElem?_eq_some_iff.1 hj).1
                have m1 : off * i.size ≤ i' * i.size := Nat.mul_le_mul_right _ hin.1
                have m2 : (i' + 1) * i.size ≤ (off + k) * i.size := Nat.mul_le_mul_right _ hin.2
                have m3 : (i' - off) * i.size = i' * i.size - off * i.size := Nat.sub_mul _ _ _
                rw [Nat.add_mul, Nat.add_mul] at m2
                rw [hget, if_pos (by omega), show i' * i.size + j - off * i.size = (i' - off) * i.size + j by omega]
                exact q3
              · rename_i hout
                obtain ⟨q1, q2, q3⟩ := hB _ cs hi'
                refine ⟨q1, q2, fun j c hj => ?_⟩
                obtain ⟨v, q4, q5⟩ := q3 j c hj
                refine ⟨v, ?_, q5⟩
                have hjl : j < i.size := by rw [← q1]; exact (List.getElem?_eq_some_iff.1 hj).1
                rw [hget, if_neg]
                · exact q4
                · rintro ⟨b1, b2⟩
                  rcases Nat.lt_or_ge i' off with hlt | hge
                  · have : (i' + 1) * i.size ≤ off * i.size := Nat.mul_le_mul_right _ hlt
                    rw [Nat.add_mul] at this
                    omega
                  · have : (off + k) * i.size ≤ i' * i.size := Nat.mul_le_mul_right _ (by omega)
                    rw [Nat.add_mul] at this
                    omega
          · simp at hs
        · simp at hs
      · simp at hs
end
end
section
section
variable {P : Program} {G : Tie} {w : World}
def All2 {α β : Type} (R : α → β → Prop) : List α → List β → Prop
  | [], bs => bs = []
  | a :: as, bs => ∃ b rest, bs = b :: rest ∧ R a b ∧ All2 R as rest
theorem fold_set : ∀ (vs : List Value) (k off : Nat) (cells : Array Value), off + k + vs.length ≤ cells.size →
    ((vs.zipIdx k).foldl (fun cs p => cs.setIfInBounds (off + p.2) p.1) cells).toList = cells.toList.take (off + k) ++ vs ++ cells.toList.drop (off + k + vs.length)
  | [], k, off, cells, _ => by simp
  | v :: vs, k, off, cells, h => by
    simp only [List.length_cons] at h
    simp only [List.zipIdx_cons, List.foldl_cons]
    rw [fold_set vs (k + 1) off _ (by simp; omega)]
    have e := list_seg_step cells.toList (off + k) v vs (by simp; omega)
    simp only [Array.toList_setIfInBounds, List.length_cons]
    rw [show off + (k + 1) = off + k + 1 by omega]
    exact e
theorem fold_setA (vs : Array Value) (off : Nat) (cells : Array Value) (h : off + vs.size ≤ cells.size) :
    (vs.zipIdx.foldl (fun cs (p : Value × Nat) => cs.setIfInBounds (off + p.2) p.1) cells).toList = cells.toList.take off ++ vs.toList ++ cells.toList.drop (off + vs.toList.length) := by
  rw [← Array.foldl_toList, Array.toList_zipIdx]
  have := fold_set vs.toList 0 off cells (by simpa using h)
  simpa using this
theorem fillParts_run (place : Nat → Option (Nat × Nat)) : ∀ {ps : List (Nat × Nat × V)} {rs : List (Nat × Value)} {zs cs : List V} {cells : Array Value}, RepL G zs cells.toList → fillParts zs ps = some cs →
    All2 (fun p r => place r.1 = some (p.1, p.2.1) ∧ RepV G p.2.2 r.2) ps rs → ∃ cells', Instr.fill place cells rs = some cells' ∧ RepL G cs cells'.toList
  | [], rs, zs, cs, cells, hz, h, hf => by
    simp only [All2] at hf
    subst hf
    simp only [fillParts, Option.some.injEq] at h
    subst h
    exact ⟨cells, rfl, hz⟩
  | (off, sz, v) :: ps, rs, zs, cs, cells, hz, h, hf => by
    simp only [All2] at hf
    obtain ⟨⟨i, rv⟩, rs, rfl, ⟨hp, hv⟩, hf⟩ := hf
    · simp only at hp hv
      unfold fillParts at h
      split at h
      · rename_i hc
        obtain ⟨hl, hone, hle⟩ := hc
        have hvu : v ≠ .undef := by
          rintro rfl
          simp [V.cells, zm] at hone
        have hcells := hv.cells hvu
        have hsz : rv.cells.size = sz := by rw [← Array.length_toList, hcells.length, hl]
        have hzl : cells.size = zs.length := by rw [← Array.length_toList, hz.length]
        have hput := hz.put (off := off) hcells
        unfold Instr.fill
        simp only [hp]
        rw [if_neg (by simp [hsz]; omega)]
        refine fillParts_run place ?_ h hf
        rw [fold_setA _ _ _ (by omega)]
        exact hput
      · simp at h
theorem fillRows_run {sz n : Nat} : ∀ {ps : List (Nat × V)} {rs : List (Nat × Value)} {zs cs : List (List V)} {cells : Array Value}, RepFlat G sz zs cells.toList → zv sz zs ps = some cs →
    All2 (fun p r => p.1 = r.1 ∧ RepV G p.2 r.2) ps rs → ∃ cells', Instr.fill (fun i => some (i * sz, sz)) cells rs = some cells' ∧ RepFlat G sz cs cells'.toList
  | [], rs, zs, cs, cells, hz, h, hf => by
    simp only [All2] at hf
    subst hf
    simp only [zv, Option.some.injEq] at h
    subst h
    exact ⟨cells, rfl, hz⟩
  | (i, v) :: ps, rs, zs, cs, cells, hz, h, hf => by
    simp only [All2] at hf
    obtain ⟨⟨i', rv⟩, rs, rfl, ⟨hii, hv⟩, hf⟩ := hf
    · simp only at hii hv
      subst hii
      unfold zv at h
      split at h
      · rename_i hc
        obtain ⟨hl, hone, hlt⟩ := hc
        have hvu : v ≠ .undef := by
          rintro rfl
          simp [V.cells, zm] at hone
        have hcells := hv.cells hvu
        have hsz : rv.cells.size = sz := by rw [← Array.length_toList, hcells.length, hl]
        have hzl : cells.size = zs.length * sz := by rw [← Array.length_toList, hz.1]
        have hroom : i * sz + sz ≤ cells.size := row_room hzl (Nat.le_refl _) hlt
        unfold Instr.fill
        simp only
        rw [if_neg (by simp [hsz]; omega)]
        refine fillRows_run (n := n) ?_ h hf
        rw [fold_setA _ _ _ (by omega)]
        have hrl : rv.cells.toList.length = sz := by simpa using hsz
        refine ⟨by rw [List.length_append, List.length_append, List.length_take, List.length_drop, Array.length_toList, hrl, List.length_set, Nat.min_eq_left (by omega)]; omega, fun k cs' hk => ?_⟩
        by_cases e : k = i
        · subst e
          rw [List.getElem?_set_self hlt] at hk
          injection hk with hk
          subst hk
          refine ⟨hl, fun j c hj => ?_⟩
          obtain ⟨u, h2, h3⟩ := hcells.get hj
          have hjl := (List.getElem?_eq_some_iff.1 hj).1
          refine ⟨u, ?_, h3⟩
          rw [getElem?_put _ _ _ _ (by simp [hrl]; omega), if_pos (by omega), show k * sz + j - k * sz = j by omega]
          exact h2
        · rw [List.getElem?_set_ne (by omega)] at hk
          obtain ⟨h2, h3⟩ := hz.2 k cs' hk
          refine ⟨h2, fun j c hj => ?_⟩
          obtain ⟨u, h4, h5⟩ := h3 j c hj
          have hjl := (List.getElem?_eq_some_iff.1 hj).1
          refine ⟨u, ?_, h5⟩
          rw [getElem?_put _ _ _ _ (by simp [hrl]; omega), if_neg]
          · exact h4
          · intro hh
            obtain ⟨hh1, hh2⟩ := hh
            have := row_index_inj (sz := sz) (i := k) (j := j) (i' := i) (j' := k * sz + j - i * sz) (by omega) (by omega) (by omega)
            exact e this.1
      · simp at h
theorem made_flat {sz n : Nat} {z : Array Value} {zs : List V} (hz : scsOf z.toList = some zs) (hs : z.size = sz) : RepFlat G sz (List.replicate n zs) (madeCells z (n * sz)).toList := by
  have hrep : RepL G zs z.toList := scsOf_rep hz
  refine ⟨by simp [size_madeCells], fun i cs hi => ?_⟩
  rw [List.getElem?_replicate] at hi
  split at hi
  · rename_i hlt
    injection hi with hi
    subst hi
    have hzl : zs.length = sz := by rw [← hrep.length]; simpa using hs
    refine ⟨hzl, fun j c hj => ?_⟩
    obtain ⟨u, h1, h2⟩ := hrep.get hj
    have hjl := (List.getElem?_eq_some_iff.1 hj).1
    refine ⟨u, ?_, h2⟩
    have hb : i * sz + j < n * sz := by
      have : (i + 1) * sz ≤ n * sz := Nat.mul_le_mul_right _ (by omega)
      rw [Nat.add_mul] at this
      omega
    have hm : (i * sz + j) % z.size = j := by
      rw [hs, Nat.mul_comm, Nat.mul_add_mod, Nat.mod_eq_of_lt (by omega)]
    rw [Array.getElem?_toList] at h1 ⊢
    unfold madeCells
    simp only [Array.getElem?_map, Array.getElem?_range, hb, if_true, Option.map_some, hm]
    rw [getElem!_pos z j (by omega)]
    have := (Array.getElem?_eq_some_iff.1 h1).2
    rw [this]
  · simp at hi
def Tie.newFz (G : Tie) (k : Nat) (cells : Array Value) : Tie := { G with fz := fun b o => if b = k then cells[o]? else G.fz b o }
theorem Ext.newFz {G : Tie} {h : Heap} {w : World} (R : Rel G h w) (cells : Array Value) : Ext G (G.newFz w.heap.size cells) where
  fz b o v hv := by
    simp only [Tie.newFz]
    rw [if_neg]
    · exact hv
    · rintro rfl
      rw [R.fz_new] at hv
      simp at hv
  n := Nat.le_refl _
  bx _ _ := rfl
  rw _ _ L h := ⟨L, h, Nat.le_refl _, fun _ => rfl⟩
  b0 := rfl
  kp := rfl
theorem Rel.newFz {G : Tie} {h : Heap} {w : World} (R : Rel G h w) (cells : Array Value) (ty : TypeId) (fr : Nat × Nat) : Rel (G.newFz w.heap.size cells) h (w.alloc (.cells cells ty fr)) := by
  have x := Ext.newFz R cells
  have R' := R.world (w' := w.alloc (.cells cells ty fr)) (by simp) (fun k hk => heap_alloc_lt _ _ _ hk)
  have hreal : ∀ b, (G.newFz w.heap.size cells).real h b = G.real h b := fun _ => rfl
  refine ⟨R.n, ?_, ?_, ?_, ?_, ?_, ?_, R'.hb0, fun c hc => ?_⟩
  · intro b o v hv
    simp only [Tie.newFz] at hv
    split at hv
    · rename_i e
      subst e
      unfold World.cell?
      rw [heap_alloc_eq]
      simpa using hv
    · exact R'.fz b o v hv
  · intro b t cs e
    obtain ⟨h1, rs, h2, h3⟩ := R'.box b t cs e
    exact ⟨h1, rs, h2, h3.ext x⟩
  · intro b t sz e rows eq
    obtain ⟨h0, L, rs, h1, h2, h3, h4, h5, h6, h7⟩ := R'.row b t sz e rows eq
    exact ⟨h0, L, rs, h1, h2, h3, h4, h5, h6, h7.ext x⟩
  · intro b es e
    obtain ⟨l, clock, h1, h2⟩ := R'.mp b es e
    exact ⟨l, clock, h1, h2.ext x⟩
  · intro b k hk
    rw [hreal] at hk
    refine ⟨(R.low b k hk).1, fun o => ?_⟩
    simp only [Tie.newFz]
    have := R.lt hk
    rw [if_neg (by omega)]
    exact (R.low b k hk).2 o
  · intro b b' k h1 h2
    exact R.inj b b' k h1 h2
  · obtain ⟨k1, k2, k3⟩ := R'.kp c hc
    refine ⟨k1, fun o => ?_, k3⟩
    simp only [Tie.newFz]
    have := (R.kp c hc).1
    rw [if_neg (by omega)]
    exact k2 o
theorem Rel.newSlc {G : Tie} {h : Heap} {w : World} (R : Rel G h w) {ex : Cp} {sz : Nat} {rows : List (List V)} {cells : List Value} {rest : List Value} {cap : Nat} (hf : RepFlat G sz rows cells) (hg : (rows.all fun r => r.all ground) = true)
    (hc : rows.length ≤ cap) (hex : ex.isFull = true → cap = rows.length) (ty : TypeId) (fr : Nat × Nat) :
    Rel (G.newFz w.heap.size (cells ++ rest).toArray) h (w.alloc (.cells (cells ++ rest).toArray ty fr)) ∧ RepV (G.newFz w.heap.size (cells ++ rest).toArray) (.slc ex sz rows) (.slice (some ⟨w.heap.size, 0, none⟩) rows.length cap) := by
  refine ⟨R.newFz _ ty fr, ?_⟩
  have x := Ext.newFz R (cells ++ rest).toArray
  simp only [RepV]
  refine ⟨_, _, rfl, hc, hex, hg, w.heap.size, 0, fun _ => rfl, fun _ _ => R.hb0, RepRows.of_get fun i cs hi => ?_⟩
  obtain ⟨h1, h2⟩ := hf.2 i cs hi
  refine ⟨h1, RepF.of_get fun j c hj => ?_⟩
  obtain ⟨v, h3, h4⟩ := h2 j c hj
  refine ⟨v, ?_, h4.ext x⟩
  simp only [Tie.newFz, if_true]
  rw [List.getElem?_toArray, Nat.zero_add, List.getElem?_append_left (List.getElem?_eq_some_iff.1 h3).1]
  exact h3
end
end
section
open Go.RowKit (Below)
section
variable {P : Program} {G : Tie} {h h' : Heap} {w : World}
theorem boxAt_inv {b : Nat} {t : TypeId} {cs : List V} (hb : boxAt h b = some (t, cs)) : h[b]? = some (.box t cs) := by
  unfold boxAt at hb
  split at hb
  · rename_i e
    simp only [Option.some.injEq, Prod.mk.injEq] at hb
    obtain ⟨rfl, rfl⟩ := hb
    exact e
  · simp at hb
theorem shape_of_heap {b : Nat} {rs : Array Value} {t : TypeId} {fr : Nat × Nat} (hw : w.heap[b]? = some (.cells rs t fr)) : w.shape? b = some (t, rs.size) := by
  simp [World.shape?, hw]
theorem uncast_run {src dst t : TypeId} {s : Nat} {x v : V} {r : Value} (R : Rel G h w) (hs : P.underlying src = some (.pointer t)) (hd : P.underlying dst = some .unsafePointer) (hz : sizeO P t = some s) (h0 : s ≠ 0)
    (hx : RepV G x r) (hv : uncastV h x = some v) : (convert src dst r).run P w = .ok r w ∧ RepV G v r := by
  obtain ⟨i, hi, rfl⟩ : ∃ i, P.info? t = some i ∧ i.size = s := by simpa [sizeO] using hz
  unfold uncastV at hv
  split at hv
  · injection hv with hv
    subst hv
    have := hx.sc_inv
    subst this
    refine ⟨?_, hx⟩
    simp [convert, run_underlying hs, run_underlying hd, Conv.unsafePointer]
  · simp only [Option.bind_eq_some_iff] at hv
    obtain ⟨⟨ty, cs⟩, hb, hv⟩ := hv
    split at hv
    · rename_i hlt
      injection hv with hv
      subst hv
      have hx' := hx
      simp only [RepV] at hx'
      obtain ⟨_, rfl⟩ := hx'
      obtain ⟨_, rs, hw, hl⟩ := R.box _ _ _ (boxAt_inv hb)
      have hlen := hl.length
      simp only [Array.length_toList] at hlen
      exact ⟨Lib.run_to_unsafe w _ hs hd hi h0 (shape_of_heap hw) (by simp only at hlt ⊢; omega), hx⟩
    · simp at hv
  · simp at hv
theorem cast_run {src dst u : TypeId} {s : Nat} {x v : V} {r : Value} (R : Rel G h w) (hs : P.underlying src = some .unsafePointer) (hd : P.underlying dst = some (.pointer u)) (hz : sizeO P u = some s)
    (hlies : liesAt P P.depth u (s / P.cellsOf u) 0 u 1 = true) (hx : RepV G x r) (hv : castV h u s x = some v) : (convert src dst r).run P w = .ok r w ∧ RepV G v r := by
  obtain ⟨i, hi, rfl⟩ : ∃ i, P.info? u = some i ∧ i.size = s := by simpa [sizeO] using hz
  unfold castV at hv
  split at hv
  · injection hv with hv
    subst hv
    have := hx.sc_inv
    subst this
    refine ⟨?_, hx⟩
    simp [convert, run_underlying hs, run_underlying hd, Conv.unsafePointer]
  · simp only [Option.bind_eq_some_iff] at hv
    obtain ⟨⟨ty, cs⟩, hb, hv⟩ := hv
    split at hv
    · rename_i hc
      simp only at hc
      obtain ⟨rfl, hlen⟩ := hc
      injection hv with hv
      subst hv
      have hx' := hx
      simp only [RepV] at hx'
      obtain ⟨_, rfl⟩ := hx'
      obtain ⟨_, rs, hw, hl⟩ := R.box _ _ _ (boxAt_inv hb)
      have hl2 := hl.length
      simp only [Array.length_toList] at hl2
      refine ⟨Lib.run_from_unsafe w _ hs hd hi (shape_of_heap hw) ?_, hx⟩
      simp only
      rw [hl2, hlen]
      exact hlies
    · simp at hv
  · simp at hv
theorem samePtr_run {op : BinOp} {t e : TypeId} {s : Nat} {neg : Bool} {x y : V} {b : Bool} {rx ry : Value} (R : Rel G h w) (hop : op = if neg then .neq else .eql) (ht : P.underlying t = some (.pointer e)) (hz : sizeO P e = some s) (h0 : s ≠ 0)
    (hx : RepV G x rx) (hy : RepV G y ry) (hv : samePtr h x y = some b) (ox oy : Operand) : (do eqGuard op t ox oy rx ry; binOp op t rx ry : Sem Value).run P w = .ok (.bool (if neg then !b else b)) w := by
  obtain ⟨i, hi, rfl⟩ : ∃ i, P.info? e = some i ∧ i.size = s := by simpa [sizeO] using hz
  have key : ∀ {p q : Option Addr} (c : Bool), rx = .pointer p → ry = .pointer q → (∀ d, (Op.equalIn (d + 1) t (.pointer p) (.pointer q)).run P w = .ok c w) → b = c → (do eqGuard op t ox oy rx ry; binOp op t rx ry : Sem Value).run P w = .ok (.bool (if neg then !b else b)) w := by
    rintro p q c rfl rfl h3 rfl
    have h4 : (Op.equal t (.pointer p) (.pointer q)).run P w = .ok b w := by
      simp only [Op.equal, Op.maxDepth]
      exact h3 9999
    have h5 : (eqGuard op t ox oy (.pointer p) (.pointer q)).run P w = .ok () w := by
      cases neg <;> simp only [Bool.false_eq_true, if_false, if_true] at hop <;> subst hop <;> simp [eqGuard]
    simp only [Sem.run_bind, h5, Result.andThen_ok]
    cases neg
    · simp only [Bool.false_eq_true, if_false] at hop ⊢
      subst hop
      simp only [binOp, Sem.run_bind, h4, Result.andThen_ok, Sem.run_pure]
    · simp only [if_true] at hop ⊢
      subst hop
      simp only [binOp, Sem.run_bind, h4, Result.andThen_ok, Sem.run_pure]
  unfold samePtr at hv
  split at hv
  · injection hv with hv
    exact key true hx.sc_inv hy.sc_inv (fun d => by simp [Op.equalIn, run_underlying ht]) hv.symm
  · injection hv with hv
    simp only [RepV] at hy
    obtain ⟨_, rfl⟩ := hy
    exact key false hx.sc_inv rfl (fun d => by simp [Op.equalIn, run_underlying ht]) hv.symm
  · injection hv with hv
    simp only [RepV] at hx
    obtain ⟨_, rfl⟩ := hx
    exact key false rfl hy.sc_inv (fun d => by simp [Op.equalIn, run_underlying ht]) hv.symm
  · rename_i b1 o1 b2 o2
    simp only [Option.bind_eq_some_iff, Option.map_eq_some_iff] at hv
    obtain ⟨⟨t1, cs1⟩, hb1, ⟨t2, cs2⟩, hb2, hv⟩ := hv
    simp only [RepV] at hx hy
    obtain ⟨_, rfl⟩ := hx
    obtain ⟨_, rfl⟩ := hy
    have e1 := boxAt_inv hb1
    have e2 := boxAt_inv hb2
    obtain ⟨_, rs1, hw1, _⟩ := R.box _ _ _ e1
    obtain ⟨_, rs2, hw2, _⟩ := R.box _ _ _ e2
    have hsame : (sameAddr ⟨G.bx b1, o1, none⟩ ⟨G.bx b2, o2, none⟩).run P w = .ok (b1 == b2 && o1 == o2) w := by
      by_cases he : (⟨G.bx b1, o1, none⟩ : Addr) = ⟨G.bx b2, o2, none⟩
      · rw [he, run_sameAddr_same]
        injection he with he1 he2
        have : b1 = b2 := R.inj b1 b2 (G.bx b1) (by unfold Tie.real; rw [e1]) (by unfold Tie.real; rw [e2, he1])
        simp [this, he2]
      · rw [run_sameAddr_other w he hw1 hw2]
        have : (b1 == b2 && o1 == o2) = false := by
          by_cases hbb : b1 = b2
          · subst hbb
            have : o1 ≠ o2 := fun e => he (by rw [e])
            simp [this]
          · simp [hbb]
        rw [this]
    refine key (b1 == b2 && o1 == o2) rfl rfl (fun d => ?_) hv.symm
    simp [Op.equalIn, run_underlying ht, sizeOf, typeInfo, hi, h0, hsame]
  · simp at hv
theorem sliceData_run {ts : Array TypeId} {ty : TypeId} {x v : V} {r : Value} (R : Rel G h w) (hx : RepV G x r) (hv : sliceDataV h x = some v) : ∃ rv, (Builtin.unsafeSliceData_ ts ty #[r]).run P w = .ok rv w ∧ RepV G v rv := by
  unfold sliceDataV at hv
  split at hv
  · injection hv with hv
    subst hv
    have := hx.sc_inv
    subst this
    exact ⟨.pointer none, Lib.run_unsafeSliceData_nil w ts ty 0 0, by simp [RepV, Value.oneCell']⟩
  · rename_i b e off len
    split at hv
    · rename_i z hr
      split at hv
      · rename_i hpos
        injection hv with hv
        subst hv
        obtain ⟨sz, rows⟩ := z
        obtain ⟨t, eq, _, L, rs, hL, hLe, hLs, hcp, hw, hsz, hB⟩ := R.rowAt hr
        simp only [RepV] at hx
        obtain ⟨hb, a, cap, rfl, hLx⟩ := hx
        obtain ⟨h1, h2⟩ := hLx L hL
        obtain ⟨h3, h4, h5⟩ := h2 hLe.symm
        refine ⟨.pointer (some a), Lib.run_unsafeSliceData_row w ts ty a len cap (by omega), ?_⟩
        simp only [RepV]
        refine ⟨hb, a, rfl, fun L' hL' => ?_⟩
        rw [hL] at hL'
        injection hL' with hL'
        subst hL'
        exact ⟨h1, fun _ => by rw [h5 (by omega), Nat.add_zero]⟩
      · simp at hv
    · simp at hv
  · simp at hv
theorem bytesIn_map : ∀ {rows : List (List V)} {l : List UInt8}, bytesIn rows = some l → ∃ ns : List Int, rows = ns.map (fun n => [V.sc (.int .u8 n)]) ∧ l = ns.map fun n => UInt8.ofNat n.toNat
  | [], l, h => by simp [bytesIn] at h; subst h; exact ⟨[], rfl, rfl⟩
  | r :: rows, l, h => by
    unfold bytesIn at h
    split at h
    · rename_i e; simp at e
    · rename_i n r' e
      simp only [List.cons.injEq] at e
      obtain ⟨rfl, rfl⟩ := e
      simp only [Option.map_eq_some_iff] at h
      obtain ⟨l', h1, rfl⟩ := h
      obtain ⟨ns, rfl, rfl⟩ := bytesIn_map h1
      exact ⟨n :: ns, rfl, rfl⟩
    · simp at h
theorem run_loadBytes_ints : ∀ (ns : List Int) (a : Addr) (acc : ByteArray), (∀ j n, ns[j]? = some n → w.cell? (a.add j) = some (.int .u8 n)) →
    (loadBytes a acc ns.length).run P w = .ok ⟨acc.data ++ (ns.map fun n => UInt8.ofNat n.toNat).toArray⟩ w
  | [], a, acc, _ => by simp [loadBytes]
  | x :: l, a, acc, h => by
    have h0 : w.cell? a = some (.int .u8 x) := by
      have := h 0 x rfl
      simpa [Addr.add] using this
    have ih := run_loadBytes_ints l (a.add 1) (acc.push x.toNat.toUInt8) (fun j y hy => by
      have := h (j + 1) y (by simpa using hy)
      have e : (a.add 1).add j = a.add (j + 1) := by
        unfold Addr.add
        by_cases hj : j = 0
        · subst hj; simp
        · simp [hj]; omega
      rw [e]; exact this)
    simp only [List.length_cons, loadBytes, Sem.run_bind, run_load, h0, Result.andThen]
    rw [ih]
    congr 1
    apply ByteArray.ext
    simp [ByteArray.push]
theorem run_unsafeString_ints (pt it ty e : TypeId) (hp : P.underlying pt = some (.pointer e)) (hc : P.cellsOf e = 1) (g cells : Nat) (hsh : w.shape? g = some (e, cells)) (ns : List Int) (h0 : ns.length ≠ 0) (hn : ns.length ≤ cells) (h63 : ns.length ≤ 9223372036854775807)
    (hcell : ∀ j x, ns[j]? = some x → w.cell? ((⟨g, 0, none⟩ : Addr).add j) = some (.int .u8 x)) :
    (Builtin.unsafeString_ #[pt, it] ty #[.pointer (some ⟨g, 0, none⟩), .int .i64 ns.length]).run P w = .ok (.string ⟨(ns.map fun n => UInt8.ofNat n.toNat).toArray⟩) (w.freeze ⟨g, 0, none⟩ ns.length) := by
  have hlb := run_loadBytes_ints (P := P) (w := w) ns ⟨g, 0, none⟩ .empty hcell
  have hlies := Lib.liesAt_bytes (P := P) hc (cells / P.cellsOf e) ns.length (by rw [hc]; simpa using hn)
  have h63' : ¬ (9223372036854775807 : Int) < (ns.length : Int) := by omega
  have hdef : Builtin.unsafeString_ #[pt, it] ty #[.pointer (some ⟨g, 0, none⟩), .int .i64 ns.length] =
      (do
        let n ← asInt (.int .i64 ns.length)
        if n < 0 then runtimePanic (.error "unsafe.String: len out of range")
        if n > IntKind.i64.max then unsupported (.unsafePointer "String: a length above the largest int")
        if n = 0 then pure (.string .empty)
        else if ← variablesAt ⟨g, 0, none⟩ (← elemOf pt) n.toNat then do
          let s ← loadBytes ⟨g, 0, none⟩ .empty n.toNat
          freeze ⟨g, 0, none⟩ n.toNat
          pure (.string s)
        else unsupported (.unsafePointer "String: not so many bytes at ptr")) := rfl
  rw [hdef]
  have hmax : IntKind.i64.max = 9223372036854775807 := rfl
  have hneg : ¬ (ns.length : Int) < 0 := by omega
  have hz : ¬ ns = [] := by intro e; rw [e] at h0; exact h0 rfl
  simp [asInt, asIntOf, hmax, h63', hneg, hz, variablesAt, hsh, elemOf, run_underlying hp, hlies, hlb]
theorem strData_run {pt it ty u : TypeId} {k : Nat} {x v : V} {r : Value} (R : Rel G h w) (hp : P.underlying pt = some (.pointer u)) (hc : P.cellsOf u = 1) (hx : RepV G x r) (hv : strDataV h u k x = some (v, h')) :
    ∃ rv w', (Builtin.unsafeString_ #[pt, it] ty #[r, .int .i64 k]).run P w = .ok rv w' ∧ Rel G h' w' ∧ RepV G v rv ∧ Bel G w w' := by
  unfold strDataV at hv
  split at hv
  · split at hv
    · rename_i h0
      subst h0
      simp only [Option.some.injEq, Prod.mk.injEq] at hv
      obtain ⟨rfl, rfl⟩ := hv
      have := hx.sc_inv
      subst this
      exact ⟨_, w, Lib.run_unsafeString_none w pt it ty none, R, by simp [RepV, Value.oneCell'], Bel.refl _ _⟩
    · simp at hv
  · rename_i b e
    split at hv
    · rename_i t sz e' rows eq
      split at hv
      · rename_i hcond
        obtain ⟨rfl, rfl, rfl, hk0, hkl, hlim⟩ := hcond
        simp only [Option.map_eq_some_iff, Prod.mk.injEq] at hv
        obtain ⟨l, hl, rfl, rfl⟩ := hv
        obtain ⟨_, L, rs, hL, hLe, hLs, hcp, hw, hsz, hB⟩ := R.row _ _ _ _ _ eq
        simp only [RepV] at hx
        obtain ⟨hb, a, rfl, hLx⟩ := hx
        have ha := (hLx L hL).2 hLe.symm
        simp only [Nat.zero_mul, Nat.zero_add] at ha
        subst ha
        obtain ⟨ns, hns, rfl⟩ := bytesIn_map hl
        have hlen : ns.length = k := by
          have := congrArg List.length hns
          simp at this
          omega
        have hcell : ∀ (j : Nat) (x : Int), ns[j]? = some x → rs[j]? = some (.int .u8 x) := by
          intro j x hj
          have hjl := (List.getElem?_eq_some_iff.1 hj).1
          have hrj : rows[j]? = some [V.sc (.int .u8 x)] := by
            have h1 : (rows.take k)[j]? = some [V.sc (.int .u8 x)] := by rw [hns]; simp [hj]
            rw [List.getElem?_take, if_pos (by omega)] at h1
            exact h1
          obtain ⟨_, _, h3⟩ := hB j _ hrj
          obtain ⟨v, h4, h5⟩ := h3 0 _ rfl
          have := h5.sc_inv
          subst this
          simpa using h4
        have hrun := run_unsafeString_ints (P := P) (w := w) pt it ty t hp hc L.blk rs.size (shape_of_heap hw) ns (by omega) (by rw [hsz, hlen]; omega) (by rw [hlen]; unfold lim at hlim; omega) (fun j x hj => by
          rw [add_none, Nat.zero_add]
          unfold World.cell?
          simp [hw, hcell j x hj])
        rw [hlen] at hrun
        have hreal : G.real h b = some L.blk := by unfold Tie.real; rw [eq]; simp [hL]
        have hlt : b < h.length := Rel.real_lt hreal
        have hfz : (w.freeze ⟨L.blk, 0, none⟩ k).heap.size = w.heap.size ∧ ∀ c, c ≠ L.blk → (w.freeze ⟨L.blk, 0, none⟩ k).heap[c]? = w.heap[c]? := by
          unfold World.freeze
          rw [if_neg (by omega)]
          refine ⟨by simp, fun c hc => ?_⟩
          simp only [Array.getElem?_modify]
          rw [if_neg (by simpa using Ne.symm hc)]
        refine ⟨_, _, hrun, ?_, by simp [RepV, Value.oneCell'], Lib.below_freeze (Below.refl _ _) (R.low b _ hreal).1 k, fun c hc => hfz.2 c (fun e => by rw [e, R.kp_of hreal] at hc; exact absurd hc (by simp))⟩
        refine R.put (Ext.refl G) b L.blk (fun c hc => by rw [List.getElem?_set_ne (by omega)]) (by simp [R.n]) rfl (fun _ _ => rfl) (fun _ _ => rfl) ?_ (R.low b _ hreal).1 (R.low b _ hreal).2 (R.kp_of hreal) (fun c hc e => hc (R.inj c b _ e hreal)) (by rw [hfz.1]; exact Nat.le_refl _) (fun c hc _ => hfz.2 c hc) ?_ ?_ ?_
        · intro k' hk'
          unfold Tie.real at hk'
          rw [List.getElem?_set_self hlt] at hk'
          simp at hk'
        · intro t' cs' e
          rw [List.getElem?_set_self hlt] at e
          simp at e
        · intro t' sz' e1 rows' e
          rw [List.getElem?_set_self hlt] at e
          simp at e
        · intro es e
          rw [List.getElem?_set_self hlt] at e
          simp at e
      · simp at hv
    · simp at hv
  · simp at hv
theorem cap_run {t e ty : TypeId} {x : V} {r : Value} {n : Nat} (ht : P.underlying t = some (.slice e)) (hx : RepV G x r) (hv : capV x = some n) : (Builtin.cap_ #[t] ty #[r]).run P w = .ok (.int .i64 n) w := by
  have key : ∀ (b : Option Addr) (l : Nat), r = .slice b l n → (Builtin.cap_ #[t] ty #[r]).run P w = .ok (.int .i64 n) w := by
    rintro b l rfl
    simp [Builtin.cap_, run_underlying ht, goInt]
  unfold capV at hv
  split at hv
  · injection hv with hv
    subst hv
    exact key none 0 hx.sc_inv
  · split at hv
    · rename_i hf
      injection hv with hv
      subst hv
      simp only [RepV] at hx
      obtain ⟨a, cap, rfl, _, hex, _⟩ := hx
      exact key a _ (by rw [hex hf])
    · simp at hv
  · simp at hv
end
end
section
open Go.RowKit (Below)
section
variable {P : Program} {gl : Nat → Option (List V)} {G : Tie} {en : Env} {h h' : Heap} {a : Act} {w : World} {o : Oper} {base : Nat} {v : V}
def OpOk (P : Program) (o : Oper) (a : Act) (G : Tie) (h' : Heap) (w : World) (v : V) : Prop :=
  ∃ r w' G', ((execOp a.eval o).run P w = .ok (.value r) w' ∨ ((execOp a.eval o).run P w = .ok .skip w' ∧ r = undef)) ∧ Ext G G' ∧ Rel G' h' w' ∧ RepV G' v r ∧ Bel G w w'
theorem OpOk.quiet {s : Sem Value} {r : Value} (R : Rel G h w) (he : execOp a.eval o = (do pure (.value (← s)))) (hr : s.run P w = .ok r w) (hv : RepV G v r) : OpOk P o a G h w v := by
  refine ⟨r, w, G, .inl ?_, Ext.refl G, R, hv, Bel.refl _ _⟩
  rw [he]
  simp only [Sem.run_bind, hr, Result.andThen_ok]
  rfl
theorem OpOk.value {s : Sem Value} {r : Value} {w' : World} {G' : Tie} (he : execOp a.eval o = (do pure (.value (← s)))) (hr : s.run P w = .ok r w') (x : Ext G G') (R : Rel G' h' w') (hv : RepV G' v r) (hb : Bel G w w') : OpOk P o a G h' w v := by
  refine ⟨r, w', G', .inl ?_, x, R, hv, hb⟩
  rw [he]
  simp only [Sem.run_bind, hr, Result.andThen_ok]
  rfl
theorem zeroO_run {t : TypeId} {zs : List V} (h : zeroO P t = some zs) (w : World) : ∃ z, (zeroValue t).run P w = .ok z w ∧ scsOf z.cells.toList = some zs := by
  simp only [zeroO, Option.bind_eq_some_iff] at h
  obtain ⟨z, ⟨i, hi, hz⟩, hs⟩ := h
  exact ⟨z, by simp [zeroValue, typeInfo, hi, hz], hs⟩
theorem ok_move {x : Operand} (hop : o.op = .move x ∨ o.op = .assign x) (hgl : GlobOk G gl) (he : RepEnv G en a.tmps) (R : Rel G h w) {y : Opd} (hc : opd gl x = some y) : OpOk P o a G h w (y.get en) := by
  refine ⟨a.eval x, w, G, .inl ?_, Ext.refl G, R, opd_rep hgl he hc, Bel.refl _ _⟩
  rcases hop with hop | hop <;> simp only [execOp, hop] <;> rfl
theorem ok_pick {c x y : Operand} {c' x' y' : Opd} {t : Bool} (hop : o.op = .pick c x y) (hgl : GlobOk G gl) (he : RepEnv G en a.tmps) (R : Rel G h w) (h1 : opd gl c = some c') (h2 : opd gl x = some x') (h3 : opd gl y = some y')
    (ht : c'.get en = .sc (.bool t)) : OpOk P o a G h w (if t then x'.get en else y'.get en) := by
  have hcv := opd_rep hgl he h1
  rw [ht] at hcv
  have hcv := hcv.sc_inv
  refine ⟨if t then a.eval x else a.eval y, w, G, .inl ?_, Ext.refl G, R, ?_, Bel.refl _ _⟩
  · simp [execOp, hop, hcv, asBool]
  · cases t
    · exact opd_rep hgl he h3
    · exact opd_rep hgl he h2
theorem ok_alloc {t : TypeId} {zs : List V} (hop : o.op = .alloc t) (R : Rel G h w) (hz : zeroO P t = some zs) : OpOk P o a G (h ++ [.box t zs]) w (.ptr h.length 0) := by
  obtain ⟨z, hr, hs⟩ := zeroO_run hz w
  refine OpOk.value (s := Instr.alloc t true (.tuple #[])) (r := .pointer (some ⟨w.heap.size, 0, none⟩)) (w' := w.alloc (.cells z.cells t (0, 0))) (by simp only [execOp, hop]) ?_ (Ext.newBox G w.heap.size) (R.newBox t (scsOf_one hs).1 (scsOf_rep hs)) ?_ (bel_alloc R _)
  · simp [Instr.alloc, hr, newVar, newRow]
  · simp [RepV, Tie.newBox, R.n]
theorem ok_box {t : TypeId} {x : Operand} {x' : Opd} (hop : o.op = .box t x) (hgl : GlobOk G gl) (he : RepEnv G en a.tmps) (R : Rel G h w) (h1 : opd gl x = some x') (hone : (x'.get en).cells.all zm = true) :
    OpOk P o a G (h ++ [.box t (x'.get en).cells]) w (.ptr h.length 0) := by
  have hx := opd_rep hgl he h1
  have hu : x'.get en ≠ .undef := by
    intro e
    rw [e] at hone
    simp [V.cells, zm] at hone
  refine OpOk.value (s := Instr.box t (a.eval x)) (r := .pointer (some ⟨w.heap.size, 0, none⟩)) (w' := w.alloc (.cells (a.eval x).cells t (0, 0))) (by simp only [execOp, hop]) ?_ (Ext.newBox G w.heap.size) (R.newBox t hone (hx.cells hu)) ?_ (bel_alloc R _)
  · simp [Instr.box, newVar, newRow]
  · simp [RepV, Tie.newBox, R.n]
theorem arrElem_inv {t : TypeId} {sz : Nat} (h : arrElem P t = some sz) : ∃ n e, P.underlying t = some (.array n e) ∧ growElem P e = some sz := by
  unfold arrElem at h
  split at h
  · rename_i n e eq
    split at h
    · simp at h
    · exact ⟨n, e, eq, h⟩
  · simp at h
theorem ok_allocA {t : TypeId} {sz : Nat} {zs : List V} (hop : o.op = .alloc t) (R : Rel G h w) (hz : zeroO P t = some zs) (hs : step base en h (.allocA t sz zs) = some (v, h')) : OpOk P o a G h' w v := by
  simp only [step] at hs
  split at hs
  · rename_i hc
    obtain ⟨hpos, hmod, _⟩ := hc
    simp only [Option.some.injEq, Prod.mk.injEq] at hs
    obtain ⟨rfl, rfl⟩ := hs
    obtain ⟨z, hr, hs⟩ := zeroO_run hz w
    have hrep := scsOf_rep (G := G) hs
    have hlen := hrep.length
    simp only [Array.length_toList] at hlen
    have hdiv : zs.length / sz * sz = zs.length := Nat.div_mul_cancel (Nat.dvd_of_mod_eq_zero hmod)
    refine OpOk.value (s := Instr.alloc t true (.tuple #[])) (r := .pointer (some ⟨w.heap.size, 0, none⟩)) (w' := w.alloc (.cells z.cells t (0, 0))) (by simp only [execOp, hop]) ?_ (Ext.newRow G ⟨0, sz, w.heap.size, zs.length / sz⟩)
      (R.newRow t hpos (by rw [chunk_length]; exact Nat.le_refl _) (by rw [hdiv]; exact hlen) (chunk_blk hpos (scsOf_one hs).1 fun p c hc => by
        obtain ⟨r, h1, h2⟩ := hrep.get hc
        exact ⟨r, by rw [← Array.getElem?_toList]; exact h1, h2⟩)) ?_ (bel_alloc R _)
    · simp [Instr.alloc, hr, newVar, newRow]
    · simp [RepV, Tie.newRow, R.n]
  · simp at hs
theorem ok_boxA {t : TypeId} {sz : Nat} {x : Operand} {x' : Opd} (hop : o.op = .box t x) (hgl : GlobOk G gl) (he : RepEnv G en a.tmps) (R : Rel G h w) (h1 : opd gl x = some x') (hs : step base en h (.boxA t sz x') = some (v, h')) :
    OpOk P o a G h' w v := by
  simp only [step] at hs
  split at hs
  · rename_i hc
    obtain ⟨hpos, hmod, _, hone⟩ := hc
    simp only [Option.some.injEq, Prod.mk.injEq] at hs
    obtain ⟨rfl, rfl⟩ := hs
    have hx := opd_rep hgl he h1
    have hu : x'.get en ≠ .undef := by
      intro e
      rw [e] at hone
      simp [V.cells, zm] at hone
    have hrep := hx.cells hu
    have hlen := hrep.length
    simp only [Array.length_toList] at hlen
    have hdiv : (x'.get en).cells.length / sz * sz = (x'.get en).cells.length := Nat.div_mul_cancel (Nat.dvd_of_mod_eq_zero hmod)
    refine OpOk.value (s := Instr.box t (a.eval x)) (r := .pointer (some ⟨w.heap.size, 0, none⟩)) (w' := w.alloc (.cells (a.eval x).cells t (0, 0))) (by simp only [execOp, hop]) ?_ (Ext.newRow G ⟨0, sz, w.heap.size, (x'.get en).cells.length / sz⟩)
      (R.newRow t hpos (by rw [chunk_length]; exact Nat.le_refl _) (by rw [hdiv]; exact hlen) (chunk_blk hpos hone fun p c hc => by
        obtain ⟨r, h1, h2⟩ := hrep.get hc
        exact ⟨r, by rw [← Array.getElem?_toList]; exact h1, h2⟩)) ?_ (bel_alloc R _)
    · simp [Instr.box, newVar, newRow]
    · simp [RepV, Tie.newRow, R.n]
  · simp at hs
theorem ok_boxF {t : TypeId} {x : Operand} {x' : Opd} (hop : o.op = .box t x) (hgl : GlobOk G gl) (he : RepEnv G en a.tmps) (R : Rel G h w) (h1 : opd gl x = some x') (hs : step base en h (.boxF none x') = some (v, h')) :
    OpOk P o a G h' w v := by
  simp only [step] at hs
  split at hs
  · rename_i hg
    simp only [Option.all_none, Bool.and_true] at hg
    simp only [Option.some.injEq, Prod.mk.injEq] at hs
    obtain ⟨rfl, rfl⟩ := hs
    have hx := opd_rep hgl he h1
    have hu : x'.get en ≠ .undef := by
      intro e
      rw [e] at hg
      simp [V.cells, ground] at hg
    have hrep := hx.cells hu
    have X := Ext.newFz R (a.eval x).cells
    refine OpOk.value (s := Instr.box t (a.eval x)) (r := .pointer (some ⟨w.heap.size, 0, none⟩)) (w' := w.alloc (.cells (a.eval x).cells t (0, 0))) (by simp only [execOp, hop]) ?_ X
      (R.newFz (a.eval x).cells t (0, 0)) ?_ (bel_alloc R _)
    · simp [Instr.box, newVar, newRow]
    · simp only [RepV]
      refine ⟨w.heap.size, 0, rfl, hg, RepF.of_get fun j c hj => ?_⟩
      obtain ⟨r, h2, h3⟩ := hrep.get hj
      refine ⟨r, ?_, h3.ext X⟩
      simp only [Tie.newFz, if_true, Nat.zero_add]
      rw [← Array.getElem?_toList]
      exact h2
  · simp at hs
theorem fieldsPlaces_mapM : ∀ {fs : List Field} {pl : List (Nat × Nat)}, fieldsPlaces P fs = some pl → fs.mapM (fun f => (P.info? f.type).map fun i => (f.offset, i.size)) = some pl
  | [], pl, h => by simp [fieldsPlaces] at h; subst h; rfl
  | f :: fs, pl, h => by
    simp only [fieldsPlaces, sizeO, Option.bind_eq_some_iff, Option.map_eq_some_iff] at h
    obtain ⟨n, ⟨i, hi, rfl⟩, r, hr, rfl⟩ := h
    have := fieldsPlaces_mapM hr
    simp [List.mapM_cons, hi, this]
theorem buildParts_all (hgl : GlobOk G gl) (he : RepEnv G en a.tmps) {pl : List (Nat × Nat)} {place : Nat → Option (Nat × Nat)} (hpl : ∀ i p, pl[i]? = some p → place i = some p) : ∀ {ps : List (Nat × Operand)} {qs : List (Nat × Nat × Opd)},
    buildParts gl pl ps = some qs → All2 (fun p r => place r.1 = some (p.1, p.2.1) ∧ RepV G p.2.2 r.2) (getParts en qs) (ps.map fun p => (p.1, a.eval p.2))
  | [], qs, h => by simp [buildParts] at h; subst h; simp [getParts, All2]
  | (i, x) :: ps, qs, h => by
    simp only [buildParts, Option.bind_eq_some_iff, Option.map_eq_some_iff] at h
    obtain ⟨p, hp, y, hy, r, hr, rfl⟩ := h
    simp only [getParts, List.map_cons, All2]
    exact ⟨_, _, rfl, ⟨hpl _ _ hp, opd_rep hgl he hy⟩, buildParts_all hgl he hpl hr⟩
theorem slcParts_all (hgl : GlobOk G gl) (he : RepEnv G en a.tmps) : ∀ {ps : List (Nat × Operand)} {qs : List (Nat × Opd)},
    slcParts gl ps = some qs → All2 (fun p r => p.1 = r.1 ∧ RepV G p.2 r.2) (getParts2 en qs) (ps.map fun p => (p.1, a.eval p.2))
  | [], qs, h => by simp [slcParts] at h; subst h; simp [getParts2, All2]
  | (i, x) :: ps, qs, h => by
    simp only [slcParts, Option.bind_eq_some_iff, Option.map_eq_some_iff] at h
    obtain ⟨y, hy, r, hr, rfl⟩ := h
    simp only [getParts2, List.map_cons, All2]
    exact ⟨_, _, rfl, ⟨rfl, opd_rep hgl he hy⟩, slcParts_all hgl he hr⟩
theorem ok_build {t : TypeId} {ps : Array (Nat × Operand)} {zs cs : List V} {qs : List (Nat × Nat × Opd)} {d : TypeDesc} (hop : o.op = .build t ps) (hgl : GlobOk G gl) (he : RepEnv G en a.tmps) (R : Rel G h w) (hd : P.underlying t = some d) (hz : zeroO P t = some zs)
    (hq : (∃ fs pl, d = .struct fs ∧ fieldsPlaces P fs.toList = some pl ∧ buildParts gl pl ps.toList = some qs) ∨ (∃ n e s, d = .array n e ∧ sizeO P e = some s ∧ buildParts gl ((List.range n).map fun i => (i * s, s)) ps.toList = some qs))
    (hf : fillParts zs (getParts en qs) = some cs) : OpOk P o a G h w (.agg cs) := by
  simp only [zeroO, Option.bind_eq_some_iff] at hz
  obtain ⟨z, ⟨it, hit, hz⟩, hs⟩ := hz
  have key : ∃ cells, P.built t (ps.toList.map fun p => (p.1, a.eval p.2)) = some cells ∧ RepL G cs cells.toList := by
    rcases hq with ⟨fs, pl, rfl, hp, hb⟩ | ⟨n, e, s, rfl, hs', hb⟩
    · obtain ⟨cells, h1, h2⟩ := fillParts_run (G := G) (pl.toArray[·]?) (scsOf_rep hs) hf (buildParts_all hgl he (by simp) hb)
      exact ⟨cells, by simp only [Program.built, hit, hd, hz, fieldsPlaces_mapM hp]; exact h1, h2⟩
    · simp only [sizeO, Option.map_eq_some_iff] at hs'
      obtain ⟨ie, hie, rfl⟩ := hs'
      obtain ⟨cells, h1, h2⟩ := fillParts_run (G := G) (fun i => some (i * ie.size, ie.size)) (scsOf_rep hs) hf (buildParts_all hgl he (fun i p hp => by
        simp only [List.getElem?_map, Option.map_eq_some_iff] at hp
        obtain ⟨j, hj, rfl⟩ := hp
        rw [List.getElem?_range] at hj
        · injection hj with hj; rw [hj]
        · rcases Nat.lt_or_ge i n with hl | hl
          · exact hl
          · rw [List.getElem?_eq_none (by simpa using hl)] at hj
            simp at hj) hb)
      exact ⟨cells, by simp only [Program.built, hit, hd, hz, hie]; exact h1, h2⟩
  obtain ⟨cells, h1, h2⟩ := key
  refine OpOk.quiet (s := Instr.build t (ps.map fun (i, x) => (i, a.eval x))) (r := .agg cells) R (by simp only [execOp, hop]) (run_build w t _ cells ?_) ?_
  · rw [← h1]
    congr 1
    simp
  · simp only [RepV]
    exact ⟨_, rfl, h2⟩
end
end
section
open Go.RowKit (Below)
section
variable {P : Program} {gl : Nat → Option (List V)} {G : Tie} {en : Env} {h h' : Heap} {a : Act} {w : World} {o : Oper} {base : Nat} {v : V}
theorem ok_bslice {t e : TypeId} {n sz : Nat} {ps : Array (Nat × Operand)} {zs : List V} {qs : List (Nat × Opd)} (hop : o.op = .buildSlice t n ps) (hgl : GlobOk G gl) (he : RepEnv G en a.tmps) (R : Rel G h w)
    (ht : P.underlying t = some (.slice e)) (hg : growElem P e = some sz) (hz : zeroO P e = some zs) (hn : n * sz ≤ 2 ^ 24 ∧ zs.length = sz) (hq : slcParts gl ps.toList = some qs)
    {wr : Bool} (hs : step base en h (.bslice wr e sz zs n qs) = some (v, h')) : OpOk P o a G h' w v := by
  obtain ⟨i, z, hi, hz1, rfl, hpos, hby, hzs⟩ := growElem_inv hg
  simp only [step, Option.bind_eq_some_iff] at hs
  obtain ⟨rows, hf, hs⟩ := hs
  have hz' : scsOf z.cells.toList = some zs := by
    simp only [zeroO, hi, hz1, Option.bind_some] at hz
    exact hz
  obtain ⟨cells, h1, h2⟩ := fillRows_run (G := G) (n := n) (made_flat (n := n) hz' hzs) hf (slcParts_all hgl he hq)
  have hrl : rows.length * i.size = cells.size := by
    have := h2.1
    simpa using this.symm
  have hlen : rows.length = n := by
    have key : ∀ {ps : List (Nat × V)} {xs ys : List (List V)}, zv i.size xs ps = some ys → ys.length = xs.length := by
      intro ps
      induction ps with
      | nil => intro xs ys h; simp only [zv, Option.some.injEq] at h; rw [h]
      | cons p ps ih =>
        intro xs ys h
        obtain ⟨k, u⟩ := p
        unfold zv at h
        split at h
        · have := ih h; simpa using this
        · simp at h
    have := key hf
    simpa using this
  have hrun : (Instr.buildSlice t n (ps.map fun (i, x) => (i, a.eval x))).run P w = .ok (.slice (some ⟨w.heap.size, 0, none⟩) n n) (w.alloc (.cells cells e (0, 0))) := by
    have hps : (ps.map fun (i, x) => (i, a.eval x)).toList = ps.toList.map fun p => (p.1, a.eval p.2) := by simp
    have hnot : ¬ (2 ^ 24 < n * i.size) := by omega
    rw [← hps] at h1
    generalize (ps.map fun (i, x) => (i, a.eval x)) = parts at h1
    have hsize : (sizeOf e).run P w = .ok i.size w := by simp [sizeOf, typeInfo, hi]
    have hzv : (zeroValue e).run P w = .ok z w := by simp [zeroValue, typeInfo, hi, hz1]
    unfold madeCells at h1
    unfold Instr.buildSlice
    by_cases h0 : n * i.size = 0
    · have h1' : Instr.fill (fun j => some (j * i.size, i.size)) (Array.map (fun x => (#[] : Array Value)[x % (#[] : Array Value).size]!) (Array.range (n * i.size))) parts.toList = some cells := by
        have hm : ∀ f : Nat → Value, Array.map f (Array.range 0) = #[] := fun f => Array.eq_empty_of_size_eq_zero (by simp)
        rw [← h1, h0, hm, hm]
      simp only [Sem.run_bind, run_underlying ht w, Result.andThen_ok, hsize, gt_iff_lt, hnot, if_false, Sem.run_pure, if_pos h0, h1']
      rfl
    · simp only [Sem.run_bind, run_underlying ht w, Result.andThen_ok, hsize, gt_iff_lt, hnot, if_false, Sem.run_pure, if_neg h0, hzv, h1]
      rfl
  have hrows : ∀ r ∈ rows, r.length = i.size := fun r hr => by
    obtain ⟨k, hk⟩ := List.getElem?_of_mem hr
    exact (h2.2 k r hk).1
  have rowcase : (rows.all fun r => r.all zm) = true → some (V.hsl h.length 0 0 rows.length, h ++ [Obj.row e i.size 0 rows]) = some (v, h') → OpOk P o a G h' w v := by
    intro hone hs
    injection hs with hs
    simp only [Prod.mk.injEq] at hs
    obtain ⟨rfl, rfl⟩ := hs
    have hB : RepBlk G i.size cells rows := by
      have := h2.blk (rest := []) (fun r hr => (List.all_eq_true.1 hone) r hr)
      rwa [List.append_nil, Array.toArray_toList] at this
    refine OpOk.value (by simp only [execOp, hop]) hrun (Ext.newRow G ⟨0, i.size, w.heap.size, n⟩) (R.newRow e hpos (by omega) (by rw [← hrl, hlen]) hB) ?_ (bel_alloc R _)
    simp only [RepV]
    refine ⟨by simp [Tie.newRow, R.n], _, _, by rw [hlen], fun L hL => ?_⟩
    simp only [Tie.newRow, R.n, if_true, Option.some.injEq] at hL
    subst hL
    exact ⟨Nat.le_refl _, fun _ => ⟨by omega, by simp, fun _ => by simp⟩⟩
  split at hs
  · split at hs
    · rename_i hone
      exact rowcase hone hs
    · simp at hs
  split at hs
  · rename_i hgr
    injection hs with hs
    simp only [Prod.mk.injEq] at hs
    obtain ⟨rfl, rfl⟩ := hs
    obtain ⟨hR, hV⟩ := R.newSlc (ex := .lit) (rest := []) (cap := n) h2 hgr (by omega) (by omega) e (0, 0)
    rw [List.append_nil, Array.toArray_toList] at hR hV
    rw [hlen] at hV
    exact OpOk.value (by simp only [execOp, hop]) hrun (Ext.newFz R _) hR hV (bel_alloc R _)
  · split at hs
    · rename_i hone
      exact rowcase hone hs
    · simp at hs
theorem ok_makeSlice {t e : TypeId} {sz : Nat} {l c : Operand} {l' c' : Opd} {zs : List V} (hop : o.op = .makeSlice t l c) (hgl : GlobOk G gl) (he : RepEnv G en a.tmps) (R : Rel G h w)
    (ht : P.underlying t = some (.slice e)) (hg : growElem P e = some sz) (hz : zeroO P e = some zs) (hl : opd gl l = some l') (hc : opd gl c = some c')
    (hs : step base en h (.makeSlice e sz zs l' c') = some (v, h')) : OpOk P o a G h' w v := by
  obtain ⟨i, z, hi, hz1, rfl, hpos, hby, hzs⟩ := growElem_inv hg
  have hz' : scsOf z.cells.toList = some zs := by
    simp only [zeroO, hi, hz1, Option.bind_some] at hz
    exact hz
  simp only [step] at hs
  split at hs
  · rename_i n m hn hm
    split at hs
    · rename_i hcond
      injection hs with hs
      simp only [Prod.mk.injEq] at hs
      obtain ⟨rfl, rfl⟩ := hs
      obtain ⟨kl, il, e1, hl0, rfl⟩ := asNat_run (opd_rep hgl he hl) hn
      obtain ⟨kc, ic, e2, hc0, rfl⟩ := asNat_run (opd_rep hgl he hc) hm
      have hlim : ic.toNat ≤ 2 ^ 36 := hcond.2
      have hb : (i.bytes : Int) * ic ≤ 281474976710656 := by
        have h1 : (i.bytes : Int) * ic ≤ 1024 * ic := Int.mul_le_mul_of_nonneg_right (by omega) hc0
        omega
      have hrun := run_make (P := P) w t e i z ht hi hz1 kl kc il ic hl0 (by omega) hb (by omega)
      rw [← e1, ← e2] at hrun
      have hfl := made_flat (G := G) (n := ic.toNat) hz' hzs
      have hone := (scsOf_one hz').1
      have hB : RepBlk G i.size (madeCells z.cells (ic.toNat * i.size)) (List.replicate il.toNat zs) := by
        intro k cs hk
        rw [List.getElem?_replicate] at hk
        split at hk
        · rename_i hlt
          injection hk with hk
          subst hk
          obtain ⟨h1, h2⟩ := hfl.2 k zs (by rw [List.getElem?_replicate, if_pos (by omega)])
          exact ⟨h1, hone, fun j c hj => by obtain ⟨u, h3, h4⟩ := h2 j c hj; rw [Array.getElem?_toList] at h3; exact ⟨u, h3, h4⟩⟩
        · simp at hk
      refine OpOk.value (by simp only [execOp, hop]) hrun (Ext.newRow G ⟨0, i.size, w.heap.size, ic.toNat⟩) (R.newRow e hpos (by simpa using hcond.1) (size_madeCells _ _) hB) ?_ (bel_alloc R _)
      simp only [RepV]
      refine ⟨by simp [Tie.newRow, R.n], _, _, rfl, fun L hL => ?_⟩
      simp only [Tie.newRow, R.n, if_true, Option.some.injEq] at hL
      subst hL
      exact ⟨Nat.le_refl _, fun _ => ⟨hcond.1, by simp, fun _ => by simp⟩⟩
    · simp at hs
  · simp at hs
theorem ok_load {t : TypeId} {n : Option Nat} {x : Operand} {x' : Opd} (hop : o.op = .load t x) (hgl : GlobOk G gl) (he : RepEnv G en a.tmps) (R : Rel G h w) (hn : shapeO P t = some n) (hx : opd gl x = some x')
    (hv : zl h n (x'.get en) = some v) : OpOk P o a G h w v := by
  obtain ⟨rx, h1, h2⟩ := load_run R hn (opd_rep hgl he hx) hv
  exact OpOk.quiet R (by simp only [execOp, hop]) h1 h2
theorem ok_store {t : TypeId} {n : Nat} {x y : Operand} {x' y' : Opd} (hop : o.op = .store t x y) (hgl : GlobOk G gl) (he : RepEnv G en a.tmps) (R : Rel G h w) (hn : sizeO P t = some n) (hx : opd gl x = some x') (hy : opd gl y = some y')
    (hv : storeV base h n (x'.get en) (y'.get en) = some h') : OpOk P o a G h' w .undef := by
  obtain ⟨w', h1, h2, hb⟩ := store_run R hn (opd_rep hgl he hx) (opd_rep hgl he hy) hv
  refine ⟨undef, w', G, .inr ⟨?_, rfl⟩, Ext.refl G, h2, by simp [RepV], hb⟩
  simp only [execOp, hop, Sem.run_bind, h1, Result.andThen_ok]
  rfl
theorem foldl_push : ∀ (ns : List Int) (s : ByteArray), ns.foldl (fun r n => r.push (UInt8.ofNat n.toNat)) s = ⟨s.data ++ (ns.map fun n => UInt8.ofNat n.toNat).toArray⟩
  | [], s => by simp
  | n :: ns, s => by
    rw [List.foldl_cons, foldl_push ns]
    simp [ByteArray.push]
theorem ok_strOf {src dst e : TypeId} {x : Operand} {x' : Opd} {rows : List (List V)} {l : List UInt8} (hop : o.op = .convert src dst x) (hgl : GlobOk G gl) (he : RepEnv G en a.tmps) (R : Rel G h w) (hsrc : P.underlying src = some (.slice e)) (hdst : P.underlying dst = some .string)
    (hel : P.underlying e = some (.int .u8)) (hx : opd gl x = some x') (h1 : elems 1 h (x'.get en) = some rows) (h2 : bytesIn rows = some l) : OpOk P o a G h w (.str ⟨l.toArray⟩) := by
  obtain ⟨aa, cap, rs, hr, _, hfl, hc⟩ := elems_run R (opd_rep hgl he hx) h1
  obtain ⟨ns, rfl, rfl⟩ := bytesIn_map h2
  have hrs : rs = ns.map (Value.int .u8) := by
    apply List.ext_getElem?
    intro k
    by_cases hk : k < ns.length
    · obtain ⟨_, h4⟩ := hfl.2 k [V.sc (.int .u8 ns[k])] (by simp [hk])
      obtain ⟨u, h5, h6⟩ := h4 0 _ rfl
      have := h6.sc_inv
      subst this
      simp at h5
      rw [h5]
      simp [hk]
    · have := hfl.1
      simp at this
      rw [List.getElem?_eq_none (by omega), List.getElem?_eq_none (by simp; omega)]
  subst hrs
  refine OpOk.quiet (s := convert src dst (a.eval x)) (r := .string ⟨(ns.map fun n => UInt8.ofNat n.toNat).toArray⟩) R (by simp only [execOp, hop]) ?_ (RepV.str _ _)
  rw [hr, run_convert_bytes_string w src dst e aa _ cap hsrc hel hdst]
  by_cases hne : ns = []
  · subst hne
    cases aa with
    | none => rfl
    | some b =>
      have := run_bytesToString (P := P) w b 0 cap [] (by simp [loadCells, loadCellsFrom])
      exact this
  · obtain ⟨b, oo, rfl, hcell⟩ := hc (by simpa using hne)
    have hload := run_loadCells_list (P := P) w ⟨b, oo, none⟩ (ns.map (Value.int .u8)) (fun j u hj => by rw [add_none]; exact hcell j u hj)
    have := run_bytesToString (P := P) w ⟨b, oo, none⟩ ns.length cap ns (by simpa using hload)
    rw [foldl_push] at this
    simp only [List.length_map]
    rw [this]
    simp
theorem ok_bytesOf {src dst e : TypeId} {x : Operand} {x' : Opd} {s : ByteArray} (hop : o.op = .convert src dst x) (hgl : GlobOk G gl) (he : RepEnv G en a.tmps) (R : Rel G h w) (hsrc : P.underlying src = some .string) (hdst : P.underlying dst = some (.slice e))
    (hel : P.underlying e = some (.int .u8)) (hx : opd gl x = some x') (h1 : x'.get en = .sc (.string s)) : OpOk P o a G h w (.slc .any 1 (bytesOut s)) := by
  have hxv := opd_rep hgl he hx
  rw [h1] at hxv
  have hxv := hxv.sc_inv
  have hrun := run_bytes_of_string (P := P) w src dst e s hsrc hdst hel
  have hlen : (bytesOut s).length = s.size := by
    simp [bytesOut]
  have hg : ((bytesOut s).all fun r => r.all ground) = true := by
    rw [List.all_eq_true]
    intro r hr
    simp only [bytesOut, List.mem_map] at hr
    obtain ⟨c, _, rfl⟩ := hr
    rfl
  obtain ⟨hR, hV⟩ := R.drew.newSlc (ex := .any) (rest := List.replicate (grownCap w s.size 0 e - s.size) (.int .u8 0)) (cap := grownCap w s.size 0 e) (bytesOut_flat G s) hg (by rw [hlen]; exact grownCap_ge _ _ _ _) (by simp [Cp.isFull]) e
    ((bytesRow s (grownCap w s.size 0 e)).size, (bytesRow s (grownCap w s.size 0 e)).size + 1)
  have hrow : (s.data.toList.map (fun (c : UInt8) => Value.int .u8 (c.toNat : Int)) ++ List.replicate (grownCap w s.size 0 e - s.size) (Value.int .u8 0)).toArray = bytesRow s (grownCap w s.size 0 e) := by
    unfold bytesRow
    apply Array.ext'
    simp
  rw [hrow] at hR hV
  rw [hlen] at hV
  exact OpOk.value (by simp only [execOp, hop, hxv]) hrun (Ext.newFz R.drew _) hR hV (bel_drew_alloc R _)
theorem sliceStr_run {t : TypeId} {s : ByteArray} {l e : Nat} {low high : Option Value} (ht : P.underlying t = some .string) (hl : OB 0 low l) (hh : OB s.size high e) (h1 : l ≤ e) (h2 : e ≤ s.size) :
    (Instr.sliceAt t (.string s) low high none).run P w = .ok (.string (s.extract l e)) w := by
  simp [Instr.sliceAt, Instr.slice, run_underlying ht w, bounds_run (P := P) (w := w) (b := false) hl hh (.inl ⟨rfl, rfl⟩ : OB s.size none s.size) (by simp) h1 h2 (Nat.le_refl _)]
theorem boundO_OB (hgl : GlobOk G gl) (he : RepEnv G en a.tmps) {d n : Nat} {x : Option Operand} {y : Option Opd} (h : opdO gl x = some y) (hb : zf en d y = some n) : OB d (x.map a.eval) n := by
  cases x with
  | none =>
    simp only [opdO, Option.some.injEq] at h
    subst h
    simp only [zf, Option.some.injEq] at hb
    exact .inl ⟨rfl, hb.symm⟩
  | some x =>
    simp only [opdO, Option.map_eq_some_iff] at h
    obtain ⟨y, hy, rfl⟩ := h
    simp only [zf] at hb
    obtain ⟨k, i, h1, h2, h3⟩ := asNat_run (opd_rep hgl he hy) hb
    exact .inr ⟨k, i, by simp [h1], h2, h3⟩
end
end
section
open Go.RowKit (Below)
section
variable {P : Program} {gl : Nat → Option (List V)} {G : Tie} {en : Env} {h h' : Heap} {a : Act} {w : World} {o : Oper} {base : Nat} {v : V}
theorem some_pair {α β : Type} {x : Option α} {y : β} {p : α × β} (h : (x.map fun v => (v, y)) = some p) : x = some p.1 ∧ p.2 = y := by
  simp only [Option.map_eq_some_iff] at h
  obtain ⟨a, rfl, rfl⟩ := h
  exact ⟨rfl, rfl⟩
theorem mark_run (R : Rel G h w) (p : Addr) (hown : ∀ b, G.real h b ≠ some p.block) (hb0 : G.b0 ≤ p.block) (hkp : G.kp p.block = false) : ∃ w', (markStringish p).run P w = .ok () w' ∧ Rel G h w' ∧ Bel G w w' := by
  unfold markStringish
  cases hsh : w.shape? p.block with
  | none => exact ⟨w, by simp [hsh], R, Bel.refl _ _⟩
  | some q =>
    obtain ⟨e, n⟩ := q
    refine ⟨w.freeze ⟨p.block, n, none⟩ 1, by simp [hsh], ?_⟩
    have hother : ∀ c, c ≠ p.block → (w.freeze ⟨p.block, n, none⟩ 1).heap[c]? = w.heap[c]? := by
      intro c hc
      unfold World.freeze
      rw [if_neg (by omega)]
      simp [Array.getElem?_modify, Ne.symm hc]
    have hcell : ∀ c oo, (w.freeze ⟨p.block, n, none⟩ 1).cell? ⟨c, oo, none⟩ = w.cell? ⟨c, oo, none⟩ := by
      intro c oo
      by_cases hc : c = p.block
      · subst hc
        unfold World.cell? World.freeze
        rw [if_neg (by omega)]
        simp only [Array.getElem?_modify, if_true]
        cases hb : w.heap[p.block]? with
        | none => rfl
        | some ob =>
          cases ob <;> rfl
      · unfold World.cell?
        rw [hother c hc]
    have hreal : ∀ b k, G.real h b = some k → k ≠ p.block := fun b k hk e => hown b (e ▸ hk)
    have hsize : (w.freeze ⟨p.block, n, none⟩ 1).heap.size = w.heap.size := by
      unfold World.freeze
      rw [if_neg (by omega)]
      simp
    refine ⟨⟨R.n, fun b oo v hv => by rw [hcell]; exact R.fz b oo v hv, fun b t cs e => ?_, fun b t sz e rows eq => ?_, fun b es e => ?_, R.low, R.inj, ?_, fun k hk => ?_⟩, ?_, fun k hk => hother k (fun e => by rw [e, hkp] at hk; exact absurd hk (by simp))⟩
    · obtain ⟨h1, rs, h2, h3⟩ := R.box b t cs e
      refine ⟨h1, rs, ?_, h3⟩
      rw [hother _ (hreal b _ (by unfold Tie.real; rw [e]))]
      exact h2
    · obtain ⟨h0, L, rs, h1, h2, h3, h4, h5, h6⟩ := R.row b t sz e rows eq
      refine ⟨h0, L, rs, h1, h2, h3, h4, ?_, h6⟩
      rw [hother _ (hreal b _ (by unfold Tie.real; rw [eq]; simp [h1]))]
      exact h5
    · obtain ⟨l, clock, h1, h2⟩ := R.mp b es e
      refine ⟨l, clock, ?_, h2⟩
      rw [hother _ (hreal b _ (by unfold Tie.real; rw [e]))]
      exact h1
    · rw [hsize]; exact R.hb0
    · rw [hsize]; exact R.kp k hk
    · refine ⟨?_, ?_, ?_, by rw [hsize]; exact Nat.le_refl _, fun k hk => hother k (by omega)⟩ <;> (unfold World.freeze; rw [if_neg (by omega)])
theorem ifTab_inv {t : TypeId} {k : LK} (h : (ifTab P).lookup t = some k) : k = .i ∧ ∃ i j, P.info? t = some i ∧ i.comparable = true ∧ P.underlying t = some (.int j) := by
  have hm : (t, k) ∈ ifTab P := by
    generalize ifTab P = l at h
    induction l with
    | nil => simp at h
    | cons x l ih =>
      obtain ⟨a, kb⟩ := x
      rw [List.lookup_cons] at h
      split at h
      · rename_i e
        injection h with h
        have := eq_of_beq e
        subst this; subst h
        simp
      · exact List.mem_cons_of_mem _ (ih h)
  simp only [ifTab, List.mem_filterMap] at hm
  obtain ⟨u, _, hm⟩ := hm
  split at hm
  · rename_i i hi
    split at hm
    · rename_i hcmp
      split at hm
      · split at hm
        · rename_i j hj
          simp only [Option.some.injEq, Prod.mk.injEq] at hm
          obtain ⟨rfl, rfl⟩ := hm
          exact ⟨rfl, i, j, hi, hcmp, hj⟩
        · simp at hm
      · simp at hm
    · simp at hm
  · simp at hm
theorem sameIfc_run {op : BinOp} {t : TypeId} {ms : Array (String × TypeId)} {neg : Bool} {x y : V} {b : Bool} {rx ry : Value} (hop : op = if neg then .neq else .eql) (ht : P.underlying t = some (.interface ms))
    (hx : RepV G x rx) (hy : RepV G y ry) (hv : sameIfc (ifTab P) x y = some b) (ox oy : Operand) : (do eqGuard op t ox oy rx ry; binOp op t rx ry : Sem Value).run P w = .ok (.bool (if neg then !b else b)) w := by
  have key : ∀ (c : Bool), (eqGuard op t ox oy rx ry).run P w = .ok () w → (∀ d, (Op.equalIn (d + 2) t rx ry).run P w = .ok c w) → (∀ z : Bool, binOp (if z then .neq else .eql) t rx ry = (do let r ← Op.equal t rx ry; pure (.bool (if z then !r else r)) : Sem Value)) → b = c → (do eqGuard op t ox oy rx ry; binOp op t rx ry : Sem Value).run P w = .ok (.bool (if neg then !b else b)) w := by
    rintro c h1 h3 h5 rfl
    have h4 : (Op.equal t rx ry).run P w = .ok b w := by
      simp only [Op.equal, Op.maxDepth]
      exact h3 9998
    simp only [Sem.run_bind, h1, Result.andThen_ok]
    rw [hop, h5 neg]
    simp only [Sem.run_bind, h4, Result.andThen_ok, Sem.run_pure]
  unfold sameIfc at hv
  split at hv
  · rename_i u a
    injection hv with hv
    have := hx.sc_inv
    subst this
    simp only [RepV] at hy
    obtain ⟨rv, rfl, _⟩ := hy
    refine key false ?_ (fun d => by simp [Op.equalIn, run_underlying ht]) (fun z => by cases z <;> simp [binOp]) hv.symm
    cases neg <;> simp only [Bool.false_eq_true, if_false, if_true] at hop <;> subst hop <;> simp [eqGuard]
  · rename_i u a
    injection hv with hv
    have := hy.sc_inv
    subst this
    simp only [RepV] at hx
    obtain ⟨rv, rfl, _⟩ := hx
    refine key false ?_ (fun d => by simp [Op.equalIn, run_underlying ht]) (fun z => by cases z <;> simp [binOp]) hv.symm
    cases neg <;> simp only [Bool.false_eq_true, if_false, if_true] at hop <;> subst hop <;> simp [eqGuard]
  · rename_i u1 a1 u2 a2
    simp only [RepV] at hx hy
    obtain ⟨r1, rfl, h1⟩ := hx
    obtain ⟨r2, rfl, h2⟩ := hy
    have hg : (eqGuard op t ox oy (.iface u1 r1) (.iface u2 r2)).run P w = .ok () w := by
      cases neg <;> simp only [Bool.false_eq_true, if_false, if_true] at hop <;> subst hop <;> simp [eqGuard]
    have hb : ∀ z : Bool, binOp (if z then .neq else .eql) t (.iface u1 r1) (.iface u2 r2) = (do let r ← Op.equal t (.iface u1 r1) (.iface u2 r2); pure (.bool (if z then !r else r)) : Sem Value) := fun z => by cases z <;> simp [binOp]
    split at hv
    · rename_i hu
      subst hu
      simp only [Option.bind_eq_some_iff] at hv
      obtain ⟨k, hk, hv⟩ := hv
      obtain ⟨rfl, i, j, hi, hcmp, hj⟩ := ifTab_inv hk
      unfold eqCell at hv
      split at hv
      · rename_i k1 n1 k2 n2 _
        split at hv
        · rename_i hkk
          subst hkk
          injection hv with hv
          have q1 := h1.sc_inv
          have q2 := h2.sc_inv
          subst q1; subst q2
          exact key (n1 == n2) hg (fun d => by simp [Op.equalIn, run_underlying ht, run_underlying hj, typeInfo, hi, hcmp]) hb hv.symm
        · simp at hv
      · rename_i e; simp at e
      · rename_i e; simp at e
      · simp at hv
    · rename_i hu
      injection hv with hv
      exact key false hg (fun d => by rw [Op.equalIn]; simp only [Sem.run_bind, run_underlying ht, Result.andThen_ok, ne_eq, hu, not_false_eq_true, if_true, Sem.run_pure]) hb hv.symm
  · simp at hv
theorem nk_iface {d : TypeDesc} (h : nkOf d = some .iface) : ∃ ms, d = .interface ms := by
  unfold nkOf at h
  split at h
  · injection h with h; exact absurd h (by simp)
  · injection h with h; exact absurd h (by simp)
  · exact ⟨_, rfl⟩
  · injection h with h; exact absurd h (by simp)
  · injection h with h; exact absurd h (by simp)
  · simp at h
theorem ok_bin {op : BinOp} {t ty : TypeId} {x y : Operand} {ao : AOp} (hop : o.op = .binOp op t x y ty) (hgl : GlobOk G gl) (he : RepEnv G en a.tmps) (R : Rel G h w) (hc : compBin P gl op t x y = some ao)
    (hs : step base en h ao = some (v, h')) : OpOk P o a G h' w v := by
  simp only [compBin, Option.bind_eq_some_iff] at hc
  obtain ⟨d, hd, x', hx, y', hy, hc⟩ := hc
  have hrx := opd_rep hgl he hx
  have hry := opd_rep hgl he hy
  have hbin : ao = .bin op x' y' → OpOk P o a G h' w v := by
    rintro rfl
    simp only [step] at hs
    obtain ⟨h1, h2⟩ := some_pair hs
    simp only at h1 h2
    subst h2
    obtain ⟨r, h3, h4⟩ := bin_run (P := P) (w := w) (t := t) (ox := x) (oy := y) hrx hry h1
    exact OpOk.quiet R (by simp only [execOp, hop]) h3 h4
  have hbool : ∀ neg, op = (if neg then .neq else .eql) → P.underlying t = some .bool → ao = .eqBool neg x' y' → OpOk P o a G h' w v := by
    rintro neg hopn ht rfl
    simp only [step] at hs
    split at hs
    · rename_i p q ep eq
      injection hs with hs
      simp only [Prod.mk.injEq] at hs
      obtain ⟨rfl, rfl⟩ := hs
      rw [ep] at hrx
      rw [eq] at hry
      have h3 := eqBool_run (P := P) (w := w) (neg := neg) (p := p) (q := q) (ox := x) (oy := y) ht
      rw [← hrx.sc_inv, ← hry.sc_inv, ← hopn] at h3
      exact OpOk.quiet R (by simp only [execOp, hop]) h3 (RepV.bool _ _)
    · simp at hs
  have hnil : ∀ neg k, op = (if neg then .neq else .eql) → nkOf d = some k → (isNilK k y = true ∧ ao = .isNil neg k x') ∨ (isNilK k x = true ∧ ao = .isNil neg k y') → OpOk P o a G h' w v := by
    intro neg k hopn hk hor
    have hnilv : ∀ z : Operand, isNilK k z = true → z = .const k.nilV := by
      intro z hz
      unfold isNilK at hz
      split at hz <;> first | rfl | simp at hz
    have hstep : ∀ z', ao = .isNil neg k z' → ∃ b, isNil k (z'.get en) = some b ∧ v = .bool (if neg then !b else b) ∧ h' = h := by
      rintro z' rfl
      simp only [step, Option.map_eq_some_iff, Prod.mk.injEq] at hs
      obtain ⟨b, h1, h2, h3⟩ := hs
      exact ⟨b, h1, h2.symm, h3.symm⟩
    rcases hor with ⟨hz, hao⟩ | ⟨hz, hao⟩
    · obtain ⟨b, h1, rfl, rfl⟩ := hstep _ hao
      have e := hnilv _ hz
      have h3 := (isNil_run (P := P) (w := w) (neg := neg) hd hk hrx h1 x y (.inr ⟨_, e⟩)).1
      have ey : a.eval y = k.nilV := by rw [e]; rfl
      rw [← hopn, ← ey] at h3
      exact OpOk.quiet R (by simp only [execOp, hop]) h3 (RepV.bool _ _)
    · obtain ⟨b, h1, rfl, rfl⟩ := hstep _ hao
      have e := hnilv _ hz
      have h3 := (isNil_run (P := P) (w := w) (neg := neg) hd hk hry h1 x y (.inl ⟨_, e⟩)).2
      have ex : a.eval x = k.nilV := by rw [e]; rfl
      rw [← hopn, ← ex] at h3
      exact OpOk.quiet R (by simp only [execOp, hop]) h3 (RepV.bool _ _)
  have hifc : ∀ neg, op = (if neg then .neq else .eql) → nkOf d = some .iface → ao = .eqIfc neg (ifTab P) x' y' → OpOk P o a G h' w v := by
    rintro neg hopn hk rfl
    obtain ⟨ms, rfl⟩ := nk_iface hk
    simp only [step, Option.map_eq_some_iff, Prod.mk.injEq] at hs
    obtain ⟨b, h1, rfl, rfl⟩ := hs
    have h3 := sameIfc_run (P := P) (w := w) hopn hd hrx hry h1 x y
    exact OpOk.quiet R (by simp only [execOp, hop]) h3 (RepV.bool _ _)
  split at hc
  · injection hc with hc; exact hbin hc.symm
  · injection hc with hc; exact hbin hc.symm
  · split at hc
    · injection hc with hc; exact hbool false rfl hd hc.symm
    · injection hc with hc; exact hbool true rfl hd hc.symm
    · simp at hc
  · rename_i te
    split at hc
    · split at hc
      · split at hc
        · rename_i hz; injection hc with hc; exact hnil false .ptr rfl rfl (.inl ⟨hz, hc.symm⟩)
        · split at hc
          · rename_i hz; injection hc with hc; exact hnil false .ptr rfl rfl (.inr ⟨hz, hc.symm⟩)
          · simp at hc
      · split at hc
        · rename_i hz; injection hc with hc; exact hnil true .ptr rfl rfl (.inl ⟨hz, hc.symm⟩)
        · split at hc
          · rename_i hz; injection hc with hc; exact hnil true .ptr rfl rfl (.inr ⟨hz, hc.symm⟩)
          · simp at hc
      · simp at hc
    · simp only [Option.bind_eq_some_iff] at hc
      obtain ⟨s, hz, hc⟩ := hc
      split at hc
      · simp at hc
      · rename_i h0
        have fin : ∀ neg, op = (if neg then .neq else .eql) → ao = .eqPtr neg x' y' → OpOk P o a G h' w v := by
          rintro neg hopn rfl
          simp only [step, Option.map_eq_some_iff, Prod.mk.injEq] at hs
          obtain ⟨b, h1, rfl, rfl⟩ := hs
          have h3 := samePtr_run (P := P) R hopn hd hz h0 hrx hry h1 x y
          exact OpOk.quiet R (by simp only [execOp, hop]) h3 (RepV.bool _ _)
        split at hc
        · injection hc with hc; exact fin false rfl hc.symm
        · injection hc with hc; exact fin true rfl hc.symm
        · simp at hc
  · simp only [Option.bind_eq_some_iff] at hc
    obtain ⟨k, hk, hc⟩ := hc
    split at hc
    · split at hc
      · rename_i hz; injection hc with hc; exact hnil false k rfl hk (.inl ⟨hz, hc.symm⟩)
      · split at hc
        · rename_i hz; injection hc with hc; exact hnil false k rfl hk (.inr ⟨hz, hc.symm⟩)
        · split at hc
          · rename_i hki; injection hc with hc; exact hifc false rfl (hki ▸ hk) hc.symm
          · simp at hc
    · split at hc
      · rename_i hz; injection hc with hc; exact hnil true k rfl hk (.inl ⟨hz, hc.symm⟩)
      · split at hc
        · rename_i hz; injection hc with hc; exact hnil true k rfl hk (.inr ⟨hz, hc.symm⟩)
        · split at hc
          · rename_i hki; injection hc with hc; exact hifc true rfl (hki ▸ hk) hc.symm
          · simp at hc
    · simp at hc
theorem ok_conv {src dst : TypeId} {x : Operand} {ao : AOp} (hop : o.op = .convert src dst x) (hgl : GlobOk G gl) (he : RepEnv G en a.tmps) (R : Rel G h w) (hc : compConv P gl src dst x = some ao)
    (hs : step base en h ao = some (v, h')) : OpOk P o a G h' w v := by
  simp only [compConv, Option.bind_eq_some_iff] at hc
  obtain ⟨s, hsrc, d, hdst, x', hx, hc⟩ := hc
  have hrx := opd_rep hgl he hx
  split at hc
  · rename_i k0 k
    injection hc with hc
    subst hc
    simp only [step] at hs
    split at hs
    · rename_i j n e
      injection hs with hs
      simp only [Prod.mk.injEq] at hs
      obtain ⟨rfl, rfl⟩ := hs
      rw [e] at hrx
      refine OpOk.quiet (s := convert src dst (a.eval x)) R (by simp only [execOp, hop]) ?_ (RepV.int _ _ _)
      rw [hrx.sc_inv]
      simp [convert, run_underlying hsrc, run_underlying hdst, Conv.intToInt]
    · simp at hs
  · injection hc with hc
    subst hc
    simp only [step] at hs
    split at hs
    · rename_i s e
      injection hs with hs
      simp only [Prod.mk.injEq] at hs
      obtain ⟨rfl, rfl⟩ := hs
      rw [e] at hrx
      refine OpOk.quiet (s := convert src dst (a.eval x)) R (by simp only [execOp, hop]) ?_ (RepV.str _ _)
      rw [hrx.sc_inv]
      simp [convert, run_underlying hsrc, run_underlying hdst]
    · simp at hs
  · split at hc
    · rename_i e he'
      injection hc with hc
      subst hc
      simp only [step, Option.bind_eq_some_iff, Option.map_eq_some_iff, Prod.mk.injEq] at hs
      obtain ⟨rows, h1, l, h2, rfl, rfl⟩ := hs
      exact ok_strOf hop hgl he R hsrc hdst he' hx h1 h2
    · simp at hc
  · split at hc
    · rename_i e he'
      injection hc with hc
      subst hc
      simp only [step] at hs
      split at hs
      · rename_i s es
        split at hs
        · injection hs with hs
          simp only [Prod.mk.injEq] at hs
          obtain ⟨rfl, rfl⟩ := hs
          exact ok_bytesOf hop hgl he R hsrc hdst he' hx es
        · simp at hs
      · simp at hs
    · simp at hc
  · rename_i e0 e
    split at hc
    · rename_i esd
      subst esd
      split at hc
      · rename_i he'
        injection hc with hc
        subst hc
        simp only [step] at hs
        split at hs
        · rename_i r rs es
          injection hs with hs
          simp only [Prod.mk.injEq] at hs
          obtain ⟨rfl, rfl⟩ := hs
          rw [es] at hrx
          have hV := hrx
          simp only [RepV] at hrx
          obtain ⟨aa, cap, hr, hr1, hr2, hr3, b, oo, ha, hb0, hR⟩ := hrx
          rw [ha (by simp)] at hr
          have hee : e0 = e := by
            rw [hsrc] at hdst
            injection hdst with hdst
            injection hdst
          subst hee
          have hf : ∃ u, G.fz b oo = some u := by
            simp only [RepRows] at hR
            obtain ⟨h1, h2, _⟩ := hR
            cases r with
            | nil => simp at h1
            | cons c r =>
              simp only [RepF] at h2
              obtain ⟨⟨u, hu, _⟩, _⟩ := h2
              exact ⟨u, hu⟩
          obtain ⟨w', hm, hR', hbl⟩ := mark_run (P := P) R ⟨b, oo, none⟩ (fun k hk => by
            obtain ⟨u, hu⟩ := hf
            rw [(R.low k _ hk).2 oo] at hu
            simp at hu) (hb0 trivial (by simp)) (by
            cases hkc : G.kp b with
            | false => rfl
            | true =>
              obtain ⟨u, hu⟩ := hf
              rw [(R.kp b hkc).2.1 oo] at hu
              simp at hu)
          refine OpOk.value (s := convert src src (a.eval x)) (r := a.eval x) (w' := w') (by simp only [execOp, hop]) ?_ (Ext.refl G) hR' hV hbl
          rw [hr]
          simp [convert, run_underlying hsrc, run_underlying he', hm]
        · simp at hs
      · simp at hc
    · simp at hc
  · simp only [Option.bind_eq_some_iff] at hc
    obtain ⟨z, hz, hc⟩ := hc
    split at hc
    · simp at hc
    · rename_i h0
      injection hc with hc
      subst hc
      simp only [step] at hs
      obtain ⟨h1, h2⟩ := some_pair hs
      simp only at h1 h2
      subst h2
      obtain ⟨h3, h4⟩ := uncast_run (P := P) R hsrc hdst hz h0 hrx h1
      exact OpOk.quiet R (by simp only [execOp, hop]) h3 h4
  · simp only [Option.bind_eq_some_iff] at hc
    obtain ⟨z, hz, hc⟩ := hc
    split at hc
    · rename_i hl
      injection hc with hc
      subst hc
      simp only [step] at hs
      obtain ⟨h1, h2⟩ := some_pair hs
      simp only at h1 h2
      subst h2
      obtain ⟨h3, h4⟩ := cast_run (P := P) R hsrc hdst hz hl hrx h1
      exact OpOk.quiet R (by simp only [execOp, hop]) h3 h4
    · simp at hc
  · simp at hc
end
end
end Go.Am
