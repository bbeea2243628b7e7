/- Am: append, copy, make. -/
import Derived.Test.YtefbdhbfhgapeaaDoorAmOps6
namespace Go.Am
open Go.RowKit (Below)
section
variable {P : Program} {G : Tie} {w : World}

theorem Rel.drew {G : Tie} {h : Heap} {w : World} (R : Rel G h w) : Rel G h w.drew := R.world (Nat.le_refl _) (fun _ _ => rfl)

theorem grown_size {olds news : List Value} {z : Value} {sz n m cap : Nat} (h1 : olds.length = n * sz) (h2 : news.length = m * sz) (h3 : z.cells.size = sz) (h4 : n + m ≤ cap) :
    (olds ++ news ++ (Builtin.zeroCells z.cells (cap - (n + m))).toList).toArray.size = cap * sz := by
  simp only [List.size_toArray, List.length_append, Array.length_toList, size_zeroCells, h1, h2, h3, ← Nat.add_mul]
  congr 1
  omega

theorem newOk_inv {sz : Nat} {new : List (List V)} (h : newOk sz new = true) : ∀ r ∈ new, r.length = sz ∧ r.all oneCell = true := by
  intro r hr
  unfold newOk at h
  rw [List.all_eq_true] at h
  have := h r hr
  simpa using this

theorem ground_one {r : List V} (h : r.all ground = true) : r.all oneCell = true := by
  rw [List.all_eq_true] at h ⊢
  intro v hv
  have := h v hv
  cases v <;> simp_all [ground, oneCell]

theorem append_run {h h' : Heap} (R : Rel G h w) {t u ty e : TypeId} {sz base : Nat} {s x v : V} {rs rx : Value} {new : List (List V)} (ht : P.underlying t = some (.slice e))
    (hu : P.underlying u = some .string ∨ ∃ e', P.underlying u = some (.slice e')) (hg : growElem P e = some sz) (hs : RepV G s rs) (hx : RepV G x rx) (hsrc : srcRows sz h x = some new)
    (hv : appendV base h e sz s new = some (v, h')) :
    ∃ r w' G', (Builtin.append_ #[t, u] ty #[rs, rx]).run P w = .ok r w' ∧ Ext G G' ∧ Rel G' h' w' ∧ RepV G' v r ∧ Below G.b0 w w' := by
  obtain ⟨i, z, hi, hz, rfl, hpos, hby, hzs⟩ := growElem_inv hg
  obtain ⟨news, hnf, hlen, hfirst⟩ := src_run R hx hsrc
  have hnl : news.length = new.length * i.size := hnf.1
  have hff : ∀ w2 : World, w2.heap = w.heap → (Builtin.firstCells i.size new.length rx).run P w2 = .ok news.toArray w2 := by
    intro w2 h2
    have := hfirst w2 new.length h2 (Nat.le_refl _)
    rwa [← hnl, List.take_length] at this
  unfold appendV at hv
  split at hv
  · -- nothing is appended
    simp only [Option.map_eq_some_iff, Prod.mk.injEq] at hv
    obtain ⟨rows, hel, rfl, rfl⟩ := hv
    have hn0 : news = [] := List.eq_nil_of_length_eq_zero (by simpa using hnl)
    subst hn0
    obtain ⟨a, cap, olds, rfl, hlc, _, _⟩ := elems_run R hs hel
    refine ⟨_, w, G, append_room_raw (n := 0) (news := []) ht hu hi (hlen w) (hff w rfl) hlc (fun b _ => rfl) (fun _ => rfl), Ext.refl G, R, hs, Below.refl _ _⟩
  · rename_i n0 nr
    generalize hnew : n0 :: nr = new at *
    have hnpos : 0 < new.length := by rw [← hnew]; simp
    clear hnew
    -- a new row
    have hfresh : ∀ (rows : List (List V)) (a : Option Addr) (cap : Nat) (olds : List Value), rs = .slice a rows.length cap → RepFlat G i.size rows olds → (∀ r ∈ rows, r.all oneCell = true) →
        (∀ w2 : World, w2.heap = w.heap → (Builtin.firstCells i.size rows.length (.slice a rows.length cap)).run P w2 = .ok olds.toArray w2) → cap < rows.length + new.length →
        rows.length + new.length ≤ lim → newOk i.size new = true →
        ∃ r w', (Builtin.append_ #[t, u] ty #[rs, rx]).run P w = .ok r w' ∧ ∃ cells cp, w' = (w.drew.alloc (.cells cells e (0, 0))) ∧ cells.size = cp * i.size ∧ rows.length + new.length ≤ cp ∧
          RepBlk G i.size cells (rows ++ new) ∧ r = .slice (some ⟨w.heap.size, 0, none⟩) (rows.length + new.length) cp := by
      intro rows a cap olds hrs hfl hone hfo hroom hlim hok
      subst hrs
      have hok' := newOk_inv hok
      have hrun := append_grow_raw (P := P) (w := w) (ty := ty) ht hu hi hz (hlen w) (hff w.drew rfl) (hfo w.drew rfl) hroom hby hlim
      refine ⟨_, _, hrun, _, grownCap w (rows.length + new.length) cap e, rfl, grown_size hfl.1 hnl hzs (grownCap_ge _ _ _ _), grownCap_ge _ _ _ _, ?_, rfl⟩
      refine (hfl.append hnf).blk ?_
      intro r hr
      rcases List.mem_append.1 hr with hr | hr
      · exact hone r hr
      · exact (hok' r hr).2
    split at hv
    · -- nil
      split at hv
      · rename_i hc
        injection hv with hv
        simp only [Prod.mk.injEq] at hv
        obtain ⟨rfl, rfl⟩ := hv
        obtain rfl := hs.sc_inv
        obtain ⟨r, w', hrun, cells, cp, rfl, hcs, hcp, hB, rfl⟩ := hfresh [] none 0 [] rfl ⟨by simp, by simp⟩ (by simp) (fun w2 _ => by simp [Builtin.firstCells]) (by simpa using hnpos) (by simpa using hc.1) hc.2
        simp only [List.length_nil, Nat.zero_add, List.nil_append] at hcp hB hrun
        refine ⟨_, _, _, hrun, Ext.newRow G ⟨0, i.size, w.heap.size, cp⟩, ?_, ?_, below_drew_alloc _ _ _ R.hb0⟩
        · exact R.drew.newRow e hpos hcp hcs hB
        · simp only [RepV]
          refine ⟨by simp [Tie.newRow, R.n], _, _, rfl, fun L hL => ?_⟩
          simp only [Tie.newRow, R.n, if_true, Option.some.injEq] at hL
          subst hL
          exact ⟨Nat.le_refl _, fun _ => ⟨hcp, by simp, fun _ => by simp⟩⟩
      · simp at hv
    · -- a literal
      rename_i ex zz rows
      split at hv
      · rename_i hc
        simp only [Bool.and_eq_true, decide_eq_true_eq] at hc
        injection hv with hv
        simp only [Prod.mk.injEq] at hv
        obtain ⟨rfl, rfl⟩ := hv
        have hel : elems i.size h (.slc ex zz rows) = some rows := by
          unfold elems
          simp only [hc.1.1.2, if_true]
        have hs' := hs
        simp only [RepV] at hs
        obtain ⟨a, cap, rfl, hl, hex, hgr, _⟩ := hs
        have hcap := hex hc.1.1.1
        subst hcap
        obtain ⟨olds, hfl, _, hfo⟩ := src_run R hs' (sz := i.size) (new := rows) (by simpa [srcRows] using hel)
        have hone : ∀ r ∈ rows, r.all oneCell = true := fun r hr => ground_one ((List.all_eq_true.1 hgr) r hr)
        obtain ⟨r, w', hrun, cells, cp, rfl, hcs, hcp, hB, rfl⟩ := hfresh rows a rows.length olds rfl hfl hone
          (fun w2 h2 => by have := hfo w2 rows.length h2 (Nat.le_refl _); rwa [← hfl.1, List.take_length] at this) (by omega) hc.1.2 hc.2
        refine ⟨_, _, _, hrun, Ext.newRow G ⟨0, i.size, w.heap.size, cp⟩, ?_, ?_, below_drew_alloc _ _ _ R.hb0⟩
        · exact R.drew.newRow e hpos (by simpa using hcp) hcs hB
        · simp only [RepV]
          refine ⟨by simp [Tie.newRow, R.n], _, _, rfl, fun L hL => ?_⟩
          simp only [Tie.newRow, R.n, if_true, Option.some.injEq] at hL
          subst hL
          exact ⟨Nat.le_refl _, fun _ => ⟨hcp, by simp, fun _ => by simp⟩⟩
      · simp at hv
    · rename_i b ep len
      split at hv
      · rename_i uu zz e' rows eq
        split at hv
        · rename_i hc
          obtain ⟨rfl, rfl, rfl, hle, hlim, hok, hms⟩ := hc
          injection hv with hv
          simp only [Prod.mk.injEq] at hv
          obtain ⟨rfl, rfl⟩ := hv
          have hs' := hs
          simp only [RepV] at hs
          obtain ⟨hb, a, cap, rfl, hLx⟩ := hs
          obtain ⟨_, L, cur, hL, hLe, hLs, hcp, hw, hsz, hB⟩ := R.row _ _ _ _ _ eq
          obtain ⟨_, hk2⟩ := hLx L hL
          obtain ⟨hlc, hoc, haa⟩ := hk2 hLe.symm
          simp only [Nat.zero_add, Nat.zero_mul] at hoc haa
          have hok' := newOk_inv hok
          have hel : elems i.size h (.hsl b e' 0 len) = some (rows.take len) := by
            unfold elems rowAt
            simp [eq, hle]
          have htl : (rows.take len).length = len := by simp; omega
          obtain ⟨olds, hfl, _, hfo⟩ := src_run R hs' (sz := i.size) (new := rows.take len) (by simpa [srcRows] using hel)
          have hone : ∀ r ∈ rows.take len, r.all oneCell = true := by
            intro r hr
            obtain ⟨k, hk⟩ := List.getElem?_of_mem (List.mem_of_mem_take hr)
            exact (hB k r hk).2.1
          by_cases hroom : len + new.length ≤ cap
          · -- in its place
            have haddr := haa (by omega)
            subst haddr
            have hcells : len * i.size + news.length ≤ cur.size := by
              rw [hnl, hsz, ← Nat.add_mul]
              exact Nat.mul_le_mul_right _ (by omega)
            have hst := run_storeCells_at (P := P) L.blk (len * i.size) uu news 0 cur w hw (by simpa using hcells) (hnf.one fun r hr => (hok' r hr).2)
            simp only [Nat.add_zero] at hst
            have hrun := append_room_raw (P := P) (w := w) (ty := ty) (a := some ⟨L.blk, 0, none⟩) (cap := cap) ht hu hi (hlen w) (hff w rfl) hroom
              (fun b hb => by injection hb with hb; subst hb; rw [add_none, Nat.zero_add]; exact hst) (fun h => by simp at h)
            refine ⟨_, _, G.setRow b { L with e := e' + 1 }, hrun, Ext.setRow G b L _ hL (by simp; omega) (by simp; omega), ?_, ?_, below_setRow _ _ _ _ (R.low b _ (by unfold Tie.real; rw [eq]; simp [hL])).1⟩
            · refine R.setRowAt (L' := { L with e := e' + 1 }) eq hL (by simp; omega) (by simp; omega) rfl hLs (by simp; omega) (.inl rfl) (by simp) (fun c hc _ => setRow_other w _ _ _ hc) (setRow_heap w _ _ _ _ _ hw) ?_ ?_
              · simp only [List.size_toArray, List.length_append, List.length_take, List.length_drop, Array.length_toList]
                rw [← hsz]
                omega
              · intro k cs hk
                by_cases hkl : k < len
                · rw [List.getElem?_append_left (by omega), List.getElem?_take, if_pos hkl] at hk
                  obtain ⟨h1, h2, h3⟩ := hB k cs hk
                  refine ⟨h1, h2, fun j c hj => ?_⟩
                  obtain ⟨v, h4, h5⟩ := h3 j c hj
                  refine ⟨v, ?_, h5⟩
                  have hjl := (List.getElem?_eq_some_iff.1 hj).1
                  have : (k + 1) * i.size ≤ len * i.size := Nat.mul_le_mul_right _ (by omega)
                  rw [Nat.add_mul] at this
                  rw [List.getElem?_toArray, getElem?_put _ _ _ _ (by simp; omega), if_neg (by omega), Array.getElem?_toList]
                  exact h4
                · rw [List.getElem?_append_right (by omega), htl] at hk
                  obtain ⟨h1, h3⟩ := hnf.2 _ cs hk
                  refine ⟨h1, (hok' cs (List.mem_of_getElem? hk)).2, fun j c hj => ?_⟩
                  obtain ⟨v, h4, h5⟩ := h3 j c hj
                  refine ⟨v, ?_, h5⟩
                  have hjl := (List.getElem?_eq_some_iff.1 hj).1
                  have hge : len * i.size ≤ k * i.size := Nat.mul_le_mul_right _ (by omega)
                  have hsub : (k - len) * i.size = k * i.size - len * i.size := Nat.sub_mul _ _ _
                  have hlt := (List.getElem?_eq_some_iff.1 h4).1
                  rw [List.getElem?_toArray, getElem?_put _ _ _ _ (by simp; omega), if_pos (by omega), show k * i.size + j - len * i.size = (k - len) * i.size + j by omega]
                  exact h4
            · simp only [RepV]
              refine ⟨hb, _, _, rfl, fun L' hL' => ?_⟩
              simp only [Tie.setRow, if_true, Option.some.injEq] at hL'
              subst hL'
              exact ⟨Nat.le_refl _, fun _ => ⟨hroom, by simpa using hoc, fun _ => by simp⟩⟩
          · -- at a new place
            obtain ⟨r, w', hrun, cells, cp, rfl, hcs, hcp', hB', rfl⟩ := hfresh (rows.take len) (some a) cap olds (by rw [htl]) hfl hone
              (fun w2 h2 => by have := hfo w2 len h2 (by omega); rw [htl]; rwa [← htl, ← hfl.1, List.take_length, htl] at this) (by omega) (by omega) hok
            rw [htl] at hcp'
            refine ⟨_, _, G.setRow b ⟨e' + 1, i.size, w.heap.size, cp⟩, hrun, Ext.setRow G b L _ hL (by simp; omega) (by simp; omega), ?_, ?_, below_drew_alloc _ _ _ R.hb0⟩
            · exact R.drew.setRowAt (L' := ⟨e' + 1, i.size, w.heap.size, cp⟩) eq hL (by simp; omega) (by simp; omega) rfl rfl (by simp; omega) (.inr rfl) (by simp) (fun c _ hc => heap_alloc_lt _ _ _ hc)
                (heap_alloc_eq w.drew _) hcs hB'
            · simp only [RepV, htl]
              refine ⟨hb, _, _, rfl, fun L' hL' => ?_⟩
              simp only [Tie.setRow, if_true, Option.some.injEq] at hL'
              subst hL'
              exact ⟨Nat.le_refl _, fun _ => ⟨hcp', by simp, fun _ => by simp⟩⟩
        · simp at hv
      · simp at hv
    · simp at hv

theorem RepFlat.take {sz : Nat} {rows : List (List V)} {rs : List Value} (h : RepFlat G sz rows rs) {k : Nat} (hk : k ≤ rows.length) : RepFlat G sz (rows.take k) (rs.take (k * sz)) := by
  have hm : k * sz ≤ rows.length * sz := Nat.mul_le_mul_right _ hk
  refine ⟨by rw [List.length_take, List.length_take, h.1, Nat.min_eq_left hk, Nat.min_eq_left hm], fun i cs hi => ?_⟩
  rw [List.getElem?_take] at hi
  split at hi
  · rename_i hik
    obtain ⟨h1, h2⟩ := h.2 i cs hi
    refine ⟨h1, fun j c hj => ?_⟩
    obtain ⟨v, h3, h4⟩ := h2 j c hj
    refine ⟨v, ?_, h4⟩
    have hjl : j < sz := by rw [← h1]; exact (List.getElem?_eq_some_iff.1 hj).1
    have : (i + 1) * sz ≤ k * sz := Nat.mul_le_mul_right _ hik
    rw [Nat.add_mul] at this
    rw [List.getElem?_take, if_pos (by omega)]
    exact h3
  · simp at hi

theorem slcLen_run {d : V} {rd : Value} {m : Nat} (hd : RepV G d rd) (hm : slcLen d = some m) : ∃ a cap, rd = .slice a m cap := by
  unfold slcLen at hm
  split at hm
  · injection hm with hm
    subst hm
    simp only [RepV] at hd
    obtain ⟨a, cap, rfl, _⟩ := hd
    exact ⟨a, cap, rfl⟩
  · injection hm with hm
    subst hm
    simp only [RepV] at hd
    obtain ⟨_, a, cap, rfl, _⟩ := hd
    exact ⟨_, cap, rfl⟩
  · injection hm with hm
    subst hm
    exact ⟨_, _, hd.sc_inv⟩
  · simp at hm

/-- 'copy' in the machine, from what the source's cells are. -/
theorem copy_raw {t u ty e : TypeId} {i : TypeInfo} {a : Option Addr} {m cap n : Nat} {rx : Value} {cells : List Value} {w' : World} (ht : P.underlying t = some (.slice e)) (hi : P.info? e = some i)
    (hl : (Builtin.lenOf rx).run P w = .ok n w) (hc : (Builtin.firstCells i.size (min n m) rx).run P w = .ok cells.toArray w)
    (hst : ∀ b, a = some b → (storeCells b cells 0).run P w = .ok () w') (hnone : a = none → w' = w) :
    (Builtin.copy_ #[t, u] ty #[.slice a m cap, rx]).run P w = .ok (goInt ((min n m : Nat) : Int)) w' := by
  have hmin : Nat.min n m = min n m := rfl
  cases a with
  | none =>
    have := hnone rfl
    subst this
    simp [Builtin.copy_, run_underlying ht, hl, sizeOf, typeInfo, hi, hmin, hc]
  | some b =>
    have := hst b rfl
    simp [Builtin.copy_, run_underlying ht, hl, sizeOf, typeInfo, hi, hmin, hc, this]

theorem copy_run {h h' : Heap} (R : Rel G h w) {t u ty e : TypeId} {sz base k : Nat} {d x : V} {rd rx : Value} {new : List (List V)} (ht : P.underlying t = some (.slice e)) (hg : growElem P e = some sz)
    (hd : RepV G d rd) (hx : RepV G x rx) (hn : srcRows sz h x = some new) (hs : copyV base h sz d new = some (k, h')) :
    ∃ w', (Builtin.copy_ #[t, u] ty #[rd, rx]).run P w = .ok (goInt k) w' ∧ Rel G h' w' ∧ Below G.b0 w w' := by
  obtain ⟨i, z, hi1, hz1, rfl, hpos, _, hzs⟩ := growElem_inv hg
  obtain ⟨news, hflat, hlen, hfirst⟩ := src_run (P := P) R hx hn
  unfold copyV at hs
  split at hs
  · simp at hs
  · rename_i m hm
    obtain ⟨a, cap, rfl⟩ := slcLen_run hd hm
    split at hs
    · rename_i h0
      simp only [Option.some.injEq, Prod.mk.injEq] at hs
      obtain ⟨rfl, rfl⟩ := hs
      refine ⟨w, ?_, R, Below.refl _ _⟩
      have := copy_raw (P := P) (w := w) (w' := w) (u := u) (ty := ty) (a := a) (m := m) (cap := cap) (cells := []) ht hi1 (hlen w) (by rw [h0, hfirst w 0 rfl (Nat.zero_le _)]; simp) (fun b _ => by simp [storeCells]) (fun _ => rfl)
      rwa [h0] at this
    · rename_i hne
      split at hs
      · rename_i b ep off len
        simp only [slcLen, Option.some.injEq] at hm
        subst hm
        split at hs
        · rename_i ty' z' e' rows eq
          split at hs
          · rename_i hc
            obtain ⟨rfl, rfl, hol, hok, _⟩ := hc
            simp only [Option.some.injEq, Prod.mk.injEq] at hs
            obtain ⟨rfl, rfl⟩ := hs
            obtain ⟨_, L, rs, hL, hLe, hLs, hcp, hw, hsz, hB⟩ := R.row _ _ _ _ _ eq
            simp only [RepV] at hd
            obtain ⟨hb, a', cap', hr, hLx⟩ := hd
            simp only [Value.slice.injEq] at hr
            obtain ⟨rfl, _, rfl⟩ := hr
            obtain ⟨h1, h2⟩ := hLx L hL
            obtain ⟨h3, h4, h5⟩ := h2 hLe.symm
            have ha := h5 (by omega)
            rw [hLs] at ha
            subst ha
            have hkl : min new.length len ≤ new.length := Nat.min_le_left _ _
            have hkl2 : min new.length len ≤ len := Nat.min_le_right _ _
            have hfl := hflat.take hkl
            have hone := hfl.one fun r hr => (newOk_inv hok r hr).2
            have hfc := hfirst w (min new.length len) rfl hkl
            generalize hk : min new.length len = k at hne hok hkl hkl2 hfl hone hfc ⊢
            have htl : (new.take k).length = k := by rw [List.length_take]; omega
            have hcl : (news.take (k * i.size)).length = k * i.size := by rw [hfl.1, htl]
            have hroom : (off + k) * i.size ≤ L.cp * i.size := Nat.mul_le_mul_right _ (by omega)
            rw [Nat.add_mul] at hroom
            have hstore := run_storeCells_at (P := P) L.blk (off * i.size) ty' (news.take (k * i.size)) 0 rs w hw (by rw [hcl, hsz]; omega) hone
            have hrun := copy_raw (P := P) (w := w) (u := u) (ty := ty) (a := some ⟨L.blk, off * i.size, none⟩) (m := len) (cap := cap) (cells := news.take (k * i.size)) ht hi1 (hlen w) (by rw [hk]; exact hfc) (fun b hb => by
              injection hb with hb
              subst hb
              exact hstore) (by simp)
            rw [hk] at hrun
            refine ⟨_, hrun, ?_, below_setRow _ _ _ _ (R.low b _ (by unfold Tie.real; rw [eq]; simp [hL])).1⟩
            have := R.setRowAt (rows' := rows.take off ++ new.take k ++ rows.drop (off + (new.take k).length)) (L' := L) (w' := w.setRow L.blk (rs.toList.take (off * i.size + 0) ++ news.take (k * i.size) ++ rs.toList.drop (off * i.size + 0 + (news.take (k * i.size)).length)).toArray)
              (rs' := (rs.toList.take (off * i.size + 0) ++ news.take (k * i.size) ++ rs.toList.drop (off * i.size + 0 + (news.take (k * i.size)).length)).toArray)
              eq hL (Nat.le_refl _) (fun _ => rfl) hLe hLs (by
                simp only [List.length_append, List.length_take, List.length_drop]
                omega) (.inl rfl) (by simp) (fun c hc _ => setRow_other w _ _ _ hc) (setRow_heap w _ _ _ _ _ hw)
              (by
                simp only [List.size_toArray, List.length_append, List.length_take, List.length_drop, Array.length_toList, hsz, hflat.1]
                have : k * i.size ≤ new.length * i.size := Nat.mul_le_mul_right _ hkl
                omega) ?_
            · rwa [Tie.setRow_same hL] at this
            · intro i' cs hi'
              rw [getElem?_put _ _ _ _ (by rw [htl]; omega), htl] at hi'
              have hget : ∀ p, (rs.toList.take (off * i.size + 0) ++ news.take (k * i.size) ++ rs.toList.drop (off * i.size + 0 + (news.take (k * i.size)).length)).toArray[p]? =
                  if off * i.size ≤ p ∧ p < off * i.size + k * i.size then (news.take (k * i.size))[p - off * i.size]? else rs[p]? := by
                intro p
                rw [List.getElem?_toArray, Nat.add_zero, getElem?_put _ _ _ _ (by rw [hcl]; simp only [Array.length_toList]; omega), hcl, Array.getElem?_toList (xs := rs)]
              split at hi'
              · rename_i hin
                obtain ⟨q1, q2⟩ := hfl.2 _ cs hi'
                refine ⟨q1, (newOk_inv hok cs (List.mem_of_getElem? hi')).2, fun j c hj => ?_⟩
                obtain ⟨v, q3, q4⟩ := q2 j c hj
                refine ⟨v, ?_, q4⟩
                have hjl : j < i.size := by rw [← q1]; exact (List.getElem?_eq_some_iff.1 hj).1
                have m1 : off * i.size ≤ i' * i.size := Nat.mul_le_mul_right _ hin.1
                have m2 : (i' + 1) * i.size ≤ (off + k) * i.size := Nat.mul_le_mul_right _ hin.2
                have m3 : (i' - off) * i.size = i' * i.size - off * i.size := Nat.sub_mul _ _ _
                rw [Nat.add_mul, Nat.add_mul] at m2
                rw [hget, if_pos (by omega), show i' * i.size + j - off * i.size = (i' - off) * i.size + j by omega]
                exact q3
              · rename_i hout
                obtain ⟨q1, q2, q3⟩ := hB _ cs hi'
                refine ⟨q1, q2, fun j c hj => ?_⟩
                obtain ⟨v, q4, q5⟩ := q3 j c hj
                refine ⟨v, ?_, q5⟩
                have hjl : j < i.size := by rw [← q1]; exact (List.getElem?_eq_some_iff.1 hj).1
                rw [hget, if_neg]
                · exact q4
                · rintro ⟨b1, b2⟩
                  rcases Nat.lt_or_ge i' off with hlt | hge
                  · have : (i' + 1) * i.size ≤ off * i.size := Nat.mul_le_mul_right _ hlt
                    rw [Nat.add_mul] at this
                    omega
                  · have : (off + k) * i.size ≤ i' * i.size := Nat.mul_le_mul_right _ (by omega)
                    rw [Nat.add_mul] at this
                    omega
          · simp at hs
        · simp at hs
      · simp at hs

end
end Go.Am
