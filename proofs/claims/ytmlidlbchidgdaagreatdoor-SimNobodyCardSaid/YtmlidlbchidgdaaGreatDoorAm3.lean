/- The abstract machine and what is proved in it, part 3. -/
import Derived.Test.YtmlidlbchidgdaaGreatDoorAm2
import Derived.Laws.Tables
import Derived.Laws.MakeOwn
import Derived.Lib.Builder
import Derived.Lib.UnsafeStr
import Derived.LaidEql
import Derived.MapKept
set_option linter.unusedVariables false
set_option linter.unusedSimpArgs false
namespace Go.Am
section
open Go.RowKit (Below)
section
variable {P : Program} {G : Tie} {w : World}
theorem Rel.drew {G : Tie} {h : Heap} {w : World} (R : Rel G h w) : Rel G h w.drew := R.world (Nat.le_refl _) (fun _ _ => rfl)
theorem grown_size {olds news : List Value} {z : Value} {sz n m cap : Nat} (h1 : olds.length = n * sz) (h2 : news.length = m * sz) (h3 : z.cells.size = sz) (h4 : n + m ≤ cap) :
    (olds ++ news ++ (Builtin.zeroCells z.cells (cap - (n + m))).toList).toArray.size = cap * sz := by
  simp only [List.size_toArray, List.length_append, Array.length_toList, size_zeroCells, h1, h2, h3, ← Nat.add_mul]
  congr 1
  omega
theorem newOk_inv {sz : Nat} {new : List (List V)} (h : newOk sz new = true) : ∀ r ∈ new, r.length = sz ∧ r.all zm = true := by
  intro r hr
  unfold newOk at h
  rw [List.all_eq_true] at h
  have := h r hr
  simpa using this
theorem ground_one {r : List V} (h : r.all ground = true) : r.all zm = true := by
  rw [List.all_eq_true] at h ⊢
  intro v hv
  have := h v hv
  cases v <;> simp_all [ground, zm]
theorem append_run {h h' : Heap} (R : Rel G h w) {t u ty e : TypeId} {sz base : Nat} {s x v : V} {rs rx : Value} {new : List (List V)} (ht : P.underlying t = some (.slice e))
    (hu : P.underlying u = some .string ∨ ∃ e', P.underlying u = some (.slice e')) (hg : growElem P e = some sz) (hs : RepV G s rs) (hx : RepV G x rx) (hsrc : srcRows sz h x = some new)
    (hv : appendV base h e sz s new = some (v, h')) :
    ∃ r w' G', (Builtin.append_ #[t, u] ty #[rs, rx]).run P w = .ok r w' ∧ Ext G G' ∧ Rel G' h' w' ∧ RepV G' v r ∧ Bel G w w' := by
  obtain ⟨i, z, hi, hz, rfl, hpos, hby, hzs⟩ := growElem_inv hg
  obtain ⟨news, hnf, hlen, hfirst⟩ := src_run R hx hsrc
  have hnl : news.length = new.length * i.size := hnf.1
  have hff : ∀ w2 : World, w2.heap = w.heap → (Builtin.firstCells i.size new.length rx).run P w2 = .ok news.toArray w2 := by
    intro w2 h2
    have := hfirst w2 new.length h2 (Nat.le_refl _)
    rwa [← hnl, List.take_length] at this
  unfold appendV at hv
  split at hv
  · -- nothing is appended
    simp only [Option.map_eq_some_iff, Prod.mk.injEq] at hv
    obtain ⟨rows, hel, rfl, rfl⟩ := hv
    have hn0 : news = [] := List.eq_nil_of_length_eq_zero (by simpa using hnl)
    subst hn0
    obtain ⟨a, cap, olds, rfl, hlc, _, _⟩ := elems_run R hs hel
    refine ⟨_, w, G, append_room_raw (n := 0) (news := []) ht hu hi (hlen w) (hff w rfl) hlc (fun b _ => rfl) (fun _ => rfl), Ext.refl G, R, hs, Bel.refl _ _⟩
  · rename_i n0 nr
    generalize hnew : n0 :: nr = new at *
    have hnpos : 0 < new.length := by rw [← hnew]; simp
    clear hnew
    -- a new row
    have hfresh : ∀ (rows : List (List V)) (a : Option Addr) (cap : Nat) (olds : List Value), rs = .slice a rows.length cap → RepFlat G i.size rows olds → (∀ r ∈ rows, r.all zm = true) →
        (∀ w2 : World, w2.heap = w.heap → (Builtin.firstCells i.size rows.length (.slice a rows.length cap)).run P w2 = .ok olds.toArray w2) → cap < rows.length + new.length →
        rows.length + new.length ≤ lim → newOk i.size new = true →
        ∃ r w', (Builtin.append_ #[t, u] ty #[rs, rx]).run P w = .ok r w' ∧ ∃ cells cp, w' = (w.drew.alloc (.cells cells e (0, 0))) ∧ cells.size = cp * i.size ∧ rows.length + new.length ≤ cp ∧
          RepBlk G i.size cells (rows ++ new) ∧ r = .slice (some ⟨w.heap.size, 0, none⟩) (rows.length + new.length) cp := by
      intro rows a cap olds hrs hfl hone hfo hroom hlim hok
      subst hrs
      have hok' := newOk_inv hok
      have hrun := append_grow_raw (P := P) (w := w) (ty := ty) ht hu hi hz (hlen w) (hff w.drew rfl) (hfo w.drew rfl) hroom hby hlim
      refine ⟨_, _, hrun, _, grownCap w (rows.length + new.length) cap e, rfl, grown_size hfl.1 hnl hzs (grownCap_ge _ _ _ _), grownCap_ge _ _ _ _, ?_, rfl⟩
      refine (hfl.append hnf).blk ?_
      intro r hr
      rcases List.mem_append.1 hr with hr | hr
      · exact hone r hr
      · exact (hok' r hr).2
    split at hv
    · -- nil
      split at hv
      · rename_i hc
        injection hv with hv
        simp only [Prod.mk.injEq] at hv
        obtain ⟨rfl, rfl⟩ := hv
        obtain rfl := hs.sc_inv
        obtain ⟨r, w', hrun, cells, cp, rfl, hcs, hcp, hB, rfl⟩ := hfresh [] none 0 [] rfl ⟨by simp, by simp⟩ (by simp) (fun w2 _ => by simp [Builtin.firstCells]) (by simpa using hnpos) (by simpa using hc.1) hc.2
        simp only [List.length_nil, Nat.zero_add, List.nil_append] at hcp hB hrun
        refine ⟨_, _, _, hrun, Ext.newRow G ⟨0, i.size, w.heap.size, cp, new.length⟩, ?_, ?_, bel_drew_alloc R _⟩
        · exact R.drew.newRow e hpos hcp hcs hB
        · simp only [RepV]
          refine ⟨by simp [Tie.newRow, R.n], _, _, rfl, fun L hL => ?_⟩
          simp only [Tie.newRow, R.n, if_true, Option.some.injEq] at hL
          subst hL
          exact ⟨Nat.le_refl _, fun _ => ⟨hcp, ⟨by simp, by simpa using hcp⟩, fun _ => by simp⟩⟩
      · simp at hv
    · -- a literal
      rename_i ex zz rows
      split at hv
      · rename_i hc
        simp only [Bool.and_eq_true, decide_eq_true_eq] at hc
        injection hv with hv
        simp only [Prod.mk.injEq] at hv
        obtain ⟨rfl, rfl⟩ := hv
        have hel : elems i.size h (.slc ex zz rows) = some rows := by
          unfold elems
          simp only [hc.1.1.2, if_true]
        have hs' := hs
        simp only [RepV] at hs
        obtain ⟨a, cap, rfl, hl, hex, hgr, _⟩ := hs
        have hcap := hex hc.1.1.1
        subst hcap
        obtain ⟨olds, hfl, _, hfo⟩ := src_run R hs' (sz := i.size) (new := rows) (by simpa [srcRows] using hel)
        have hone : ∀ r ∈ rows, r.all zm = true := fun r hr => ground_one ((List.all_eq_true.1 hgr) r hr)
        obtain ⟨r, w', hrun, cells, cp, rfl, hcs, hcp, hB, rfl⟩ := hfresh rows a rows.length olds rfl hfl hone
          (fun w2 h2 => by have := hfo w2 rows.length h2 (Nat.le_refl _); rwa [← hfl.1, List.take_length] at this) (by omega) hc.1.2 hc.2
        refine ⟨_, _, _, hrun, Ext.newRow G ⟨0, i.size, w.heap.size, cp, (rows ++ new).length⟩, ?_, ?_, bel_drew_alloc R _⟩
        · exact R.drew.newRow e hpos (by simpa using hcp) hcs hB
        · simp only [RepV]
          refine ⟨by simp [Tie.newRow, R.n], _, _, rfl, fun L hL => ?_⟩
          simp only [Tie.newRow, R.n, if_true, Option.some.injEq] at hL
          subst hL
          exact ⟨Nat.le_refl _, fun _ => ⟨hcp, ⟨by simp, by simpa using hcp⟩, fun _ => by simp⟩⟩
      · simp at hv
    · rename_i b ep len
      split at hv
      · rename_i uu zz e' rows eq
        split at hv
        · rename_i hc
          obtain ⟨rfl, rfl, rfl, hle, hlim, hok, hms⟩ := hc
          injection hv with hv
          simp only [Prod.mk.injEq] at hv
          obtain ⟨rfl, rfl⟩ := hv
          have hT : (if len = rows.length then rows.take len ++ new else rows.take len ++ new ++ rows.drop (len + new.length)) = rows.take len ++ new ++ rows.drop (len + new.length) := by
            split
            · rw [List.drop_eq_nil_of_le (by omega), List.append_nil]
            · rfl
          rw [hT]
          have hs' := hs
          simp only [RepV] at hs
          obtain ⟨hb, a, cap, rfl, hLx⟩ := hs
          obtain ⟨_, L, cur, hL, hLe, hLs, hcp, hw, hsz, hB⟩ := R.row _ _ _ _ _ eq
          obtain ⟨_, hk2⟩ := hLx L hL
          obtain ⟨hlc, hoc, haa⟩ := hk2 hLe.symm
          simp only [Nat.zero_add, Nat.zero_mul] at hoc haa
          have hok' := newOk_inv hok
          have hel : elems i.size h (.hsl b e' 0 len) = some (rows.take len) := by
            unfold elems rowAt
            simp [eq, hle]
          have htl : (rows.take len).length = len := by simp; omega
          obtain ⟨olds, hfl, _, hfo⟩ := src_run R hs' (sz := i.size) (new := rows.take len) (by simpa [srcRows] using hel)
          have hone : ∀ r ∈ rows.take len, r.all zm = true := by
            intro r hr
            obtain ⟨k, hk⟩ := List.getElem?_of_mem (List.mem_of_mem_take hr)
            exact (hB k r hk).2.1
          by_cases hroom : len + new.length ≤ cap
          · -- in its place
            have haddr := haa (by omega)
            subst haddr
            have hcells : len * i.size + news.length ≤ cur.size := by
              rw [hnl, hsz, ← Nat.add_mul]
              exact Nat.mul_le_mul_right _ (by omega)
            have hst := run_storeCells_at (P := P) L.blk (len * i.size) uu news 0 cur w hw (by simpa using hcells) (hnf.one fun r hr => (hok' r hr).2)
            simp only [Nat.add_zero] at hst
            have hrun := append_room_raw (P := P) (w := w) (ty := ty) (a := some ⟨L.blk, 0, none⟩) (cap := cap) ht hu hi (hlen w) (hff w rfl) hroom
              (fun b hb => by injection hb with hb; subst hb; rw [add_none, Nat.zero_add]; exact hst) (fun h => by simp at h)
            have hTl : (rows.take len ++ new ++ rows.drop (len + new.length)).length ≤ cap := by
              simp only [List.length_append, htl, List.length_drop]
              omega
            refine ⟨_, _, G.setRow b { L with e := e' + 1, vis := (rows.take len ++ new ++ rows.drop (len + new.length)).length }, hrun, Ext.setRow G b L _ hL (by simp; omega) (by simp; omega), ?_, ?_, bel_setRow R (b := b) (by unfold Tie.real; rw [eq]; simp [hL]) _⟩
            · refine R.setRowAt (L' := { L with e := e' + 1, vis := (rows.take len ++ new ++ rows.drop (len + new.length)).length }) eq hL (by simp; omega) (by simp; omega) rfl hLs ⟨by show _ ≤ L.cp; omega, rfl⟩ (.inl rfl) (by simp) (fun c hc _ => setRow_other w _ _ _ hc) (setRow_heap w _ _ _ _ _ hw) ?_ ?_
              · simp only [List.size_toArray, List.length_append, List.length_take, List.length_drop, Array.length_toList]
                rw [← hsz]
                omega
              · intro k cs hk
                rw [getElem?_putE _ _ _ _ hle] at hk
                split at hk
                · rename_i hin
                  obtain ⟨h1, h3⟩ := hnf.2 _ cs hk
                  refine ⟨h1, (hok' cs (List.mem_of_getElem? hk)).2, fun j c hj => ?_⟩
                  obtain ⟨v, h4, h5⟩ := h3 j c hj
                  refine ⟨v, ?_, h5⟩
                  have hjl := (List.getElem?_eq_some_iff.1 hj).1
                  have hge : len * i.size ≤ k * i.size := Nat.mul_le_mul_right _ hin.1
                  have hsub : (k - len) * i.size = k * i.size - len * i.size := Nat.sub_mul _ _ _
                  have hlt := (List.getElem?_eq_some_iff.1 h4).1
                  rw [List.getElem?_toArray, getElem?_put _ _ _ _ (by simp; omega), if_pos (by omega), show k * i.size + j - len * i.size = (k - len) * i.size + j by omega]
                  exact h4
                · rename_i hout
                  obtain ⟨h1, h2, h3⟩ := hB k cs hk
                  refine ⟨h1, h2, fun j c hj => ?_⟩
                  obtain ⟨v, h4, h5⟩ := h3 j c hj
                  refine ⟨v, ?_, h5⟩
                  have hjl : j < i.size := by rw [← h1]; exact (List.getElem?_eq_some_iff.1 hj).1
                  rw [List.getElem?_toArray, getElem?_put _ _ _ _ (by simp; omega), if_neg, Array.getElem?_toList]
                  · exact h4
                  · intro hq
                    by_cases hkl : k < len
                    · have : (k + 1) * i.size ≤ len * i.size := Nat.mul_le_mul_right _ (by omega)
                      rw [Nat.add_mul] at this
                      omega
                    · have : (len + new.length) * i.size ≤ k * i.size := Nat.mul_le_mul_right _ (by omega)
                      rw [Nat.add_mul, ← hnl] at this
                      omega
            · simp only [RepV]
              refine ⟨hb, _, _, rfl, fun L' hL' => ?_⟩
              simp only [Tie.setRow, if_true, Option.some.injEq] at hL'
              subst hL'
              exact ⟨Nat.le_refl _, fun _ => ⟨hroom, ⟨by simpa using hoc.1, by rw [Nat.zero_add]; exact hTl⟩, fun _ => by simp⟩⟩
          · -- at a new place
            obtain ⟨r, w', hrun, cells, cp, rfl, hcs, hcp', hB', rfl⟩ := hfresh (rows.take len) (some a) cap olds (by rw [htl]) hfl hone
              (fun w2 h2 => by have := hfo w2 len h2 (by omega); rw [htl]; rwa [← htl, ← hfl.1, List.take_length, htl] at this) (by omega) (by omega) hok
            rw [htl] at hcp'
            rw [List.drop_eq_nil_of_le (by omega), List.append_nil]
            refine ⟨_, _, G.setRow b ⟨e' + 1, i.size, w.heap.size, cp, (rows.take len ++ new).length⟩, hrun, Ext.setRow G b L _ hL (by simp; omega) (by simp; omega), ?_, ?_, bel_drew_alloc R _⟩
            · exact R.drew.setRowAt (L' := ⟨e' + 1, i.size, w.heap.size, cp, (rows.take len ++ new).length⟩) eq hL (by simp; omega) (by simp; omega) rfl rfl ⟨by simp; omega, rfl⟩ (.inr rfl) (by simp) (fun c _ hc => heap_alloc_lt _ _ _ hc)
                (heap_alloc_eq w.drew _) hcs hB'
            · simp only [RepV, htl]
              refine ⟨hb, _, _, rfl, fun L' hL' => ?_⟩
              simp only [Tie.setRow, if_true, Option.some.injEq] at hL'
              subst hL'
              exact ⟨Nat.le_refl _, fun _ => ⟨hcp', ⟨by simp, by simp; omega⟩, fun _ => by simp⟩⟩
        · simp at hv
      · simp at hv
    · simp at hv
theorem RepFlat.take {sz : Nat} {rows : List (List V)} {rs : List Value} (h : RepFlat G sz rows rs) {k : Nat} (hk : k ≤ rows.length) : RepFlat G sz (rows.take k) (rs.take (k * sz)) := by
  have hm : k * sz ≤ rows.length * sz := Nat.mul_le_mul_right _ hk
  refine ⟨by rw [List.length_take, List.length_take, h.1, Nat.min_eq_left hk, Nat.min_eq_left hm], fun i cs hi => ?_⟩
  rw [List.getElem?_take] at hi
  split at hi
  · rename_i hik
    obtain ⟨h1, h2⟩ := h.2 i cs hi
    refine ⟨h1, fun j c hj => ?_⟩
    obtain ⟨v, h3, h4⟩ := h2 j c hj
    refine ⟨v, ?_, h4⟩
    have hjl : j < sz := by rw [← h1]; exact (List.getElem?_eq_some_iff.1 hj).1
    have : (i + 1) * sz ≤ k * sz := Nat.mul_le_mul_right _ hik
    rw [Nat.add_mul] at this
    rw [List.getElem?_take, if_pos (by omega)]
    exact h3
  · simp at hi
theorem slcLen_run {d : V} {rd : Value} {m : Nat} (hd : RepV G d rd) (hm : zk d = some m) : ∃ a cap, rd = .slice a m cap := by
  unfold zk at hm
  split at hm
  · injection hm with hm
    subst hm
    simp only [RepV] at hd
    obtain ⟨a, cap, rfl, _⟩ := hd
    exact ⟨a, cap, rfl⟩
  · injection hm with hm
    subst hm
    simp only [RepV] at hd
    obtain ⟨_, a, cap, rfl, _⟩ := hd
    exact ⟨_, cap, rfl⟩
  · injection hm with hm
    subst hm
    exact ⟨_, _, hd.sc_inv⟩
  · simp at hm
theorem copy_raw {t u ty e : TypeId} {i : TypeInfo} {a : Option Addr} {m cap n : Nat} {rx : Value} {cells : List Value} {w' : World} (ht : P.underlying t = some (.slice e)) (hi : P.info? e = some i)
    (hl : (Builtin.lenOf rx).run P w = .ok n w) (hc : (Builtin.firstCells i.size (min n m) rx).run P w = .ok cells.toArray w)
    (hst : ∀ b, a = some b → (storeCells b cells 0).run P w = .ok () w') (hnone : a = none → w' = w) :
    (Builtin.copy_ #[t, u] ty #[.slice a m cap, rx]).run P w = .ok (goInt ((min n m : Nat) : Int)) w' := by
  have hmin : Nat.min n m = min n m := rfl
  cases a with
  | none =>
    have := hnone rfl
    subst this
    simp [Builtin.copy_, run_underlying ht, hl, sizeOf, typeInfo, hi, hmin, hc]
  | some b =>
    have := hst b rfl
    simp [Builtin.copy_, run_underlying ht, hl, sizeOf, typeInfo, hi, hmin, hc, this]
theorem copy_run {h h' : Heap} (R : Rel G h w) {t u ty e : TypeId} {sz base k : Nat} {d x : V} {rd rx : Value} {new : List (List V)} (ht : P.underlying t = some (.slice e)) (hg : growElem P e = some sz)
    (hd : RepV G d rd) (hx : RepV G x rx) (hn : srcRows sz h x = some new) (hs : copyV base h sz d new = some (k, h')) :
    ∃ w', (Builtin.copy_ #[t, u] ty #[rd, rx]).run P w = .ok (goInt k) w' ∧ Rel G h' w' ∧ Bel G w w' := by
  obtain ⟨i, z, hi1, hz1, rfl, hpos, _, hzs⟩ := growElem_inv hg
  obtain ⟨news, hflat, hlen, hfirst⟩ := src_run (P := P) R hx hn
  unfold copyV at hs
  split at hs
  · simp at hs
  · rename_i m hm
    obtain ⟨a, cap, rfl⟩ := slcLen_run hd hm
    split at hs
    · rename_i h0
      simp only [Option.some.injEq, Prod.mk.injEq] at hs
      obtain ⟨rfl, rfl⟩ := hs
      refine ⟨w, ?_, R, Bel.refl _ _⟩
      have := copy_raw (P := P) (w := w) (w' := w) (u := u) (ty := ty) (a := a) (m := m) (cap := cap) (cells := []) ht hi1 (hlen w) (by rw [h0, hfirst w 0 rfl (Nat.zero_le _)]; simp) (fun b _ => by simp [storeCells]) (fun _ => rfl)
      rwa [h0] at this
    · rename_i hne
      split at hs
      · rename_i b ep off len
        simp only [zk, Option.some.injEq] at hm
        subst hm
        split at hs
        · rename_i ty' z' e' rows eq
          split at hs
          · rename_i hc
            obtain ⟨rfl, rfl, hol, hok, _⟩ := hc
            simp only [Option.some.injEq, Prod.mk.injEq] at hs
            obtain ⟨rfl, rfl⟩ := hs
            obtain ⟨_, L, rs, hL, hLe, hLs, hcp, hw, hsz, hB⟩ := R.row _ _ _ _ _ eq
            simp only [RepV] at hd
            obtain ⟨hb, a', cap', hr, hLx⟩ := hd
            simp only [Value.slice.injEq] at hr
            obtain ⟨rfl, _, rfl⟩ := hr
            obtain ⟨h1, h2⟩ := hLx L hL
            obtain ⟨h3, h4, h5⟩ := h2 hLe.symm
            have ha := h5 (by omega)
            rw [hLs] at ha
            subst ha
            have hkl : min new.length len ≤ new.length := Nat.min_le_left _ _
            have hkl2 : min new.length len ≤ len := Nat.min_le_right _ _
            have hfl := hflat.take hkl
            have hone := hfl.one fun r hr => (newOk_inv hok r hr).2
            have hfc := hfirst w (min new.length len) rfl hkl
            generalize hk : min new.length len = k at hne hok hkl hkl2 hfl hone hfc ⊢
            have htl : (new.take k).length = k := by rw [List.length_take]; omega
            have hcl : (news.take (k * i.size)).length = k * i.size := by rw [hfl.1, htl]
            have hroom : (off + k) * i.size ≤ L.cp * i.size := Nat.mul_le_mul_right _ (by omega)
            rw [Nat.add_mul] at hroom
            have hstore := run_storeCells_at (P := P) L.blk (off * i.size) ty' (news.take (k * i.size)) 0 rs w hw (by rw [hcl, hsz]; omega) hone
            have hrun := copy_raw (P := P) (w := w) (u := u) (ty := ty) (a := some ⟨L.blk, off * i.size, none⟩) (m := len) (cap := cap) (cells := news.take (k * i.size)) ht hi1 (hlen w) (by rw [hk]; exact hfc) (fun b hb => by
              injection hb with hb
              subst hb
              exact hstore) (by simp)
            rw [hk] at hrun
            refine ⟨_, hrun, ?_, bel_setRow R (b := b) (by unfold Tie.real; rw [eq]; simp [hL]) _⟩
            have := R.setRowAt (rows' := rows.take off ++ new.take k ++ rows.drop (off + (new.take k).length)) (L' := L) (w' := w.setRow L.blk (rs.toList.take (off * i.size + 0) ++ news.take (k * i.size) ++ rs.toList.drop (off * i.size + 0 + (news.take (k * i.size)).length)).toArray)
              (rs' := (rs.toList.take (off * i.size + 0) ++ news.take (k * i.size) ++ rs.toList.drop (off * i.size + 0 + (news.take (k * i.size)).length)).toArray)
              eq hL (Nat.le_refl _) (fun _ => rfl) hLe hLs (by
                simp only [List.length_append, List.length_take, List.length_drop]
                omega) (.inl rfl) (by simp) (fun c hc _ => setRow_other w _ _ _ hc) (setRow_heap w _ _ _ _ _ hw)
              (by
                simp only [List.size_toArray, List.length_append, List.length_take, List.length_drop, Array.length_toList, hsz, hflat.1]
                have : k * i.size ≤ new.length * i.size := Nat.mul_le_mul_right _ hkl
                omega) ?_
            · rwa [Tie.setRow_same hL] at this
            · intro i' cs hi'
              rw [getElem?_put _ _ _ _ (by rw [htl]; omega), htl] at hi'
              have hget : ∀ p, (rs.toList.take (off * i.size + 0) ++ news.take (k * i.size) ++ rs.toList.drop (off * i.size + 0 + (news.take (k * i.size)).length)).toArray[p]? =
                  if off * i.size ≤ p ∧ p < off * i.size + k * i.size then (news.take (k * i.size))[p - off * i.size]? else rs[p]? := by
                intro p
                rw [List.getElem?_toArray, Nat.add_zero, getElem?_put _ _ _ _ (by rw [hcl]; simp only [Array.length_toList]; omega), hcl, Array.getElem?_toList (xs := rs)]
              split at hi'
              · rename_i hin
                obtain ⟨q1, q2⟩ := hfl.2 _ cs hi'
                refine ⟨q1, (newOk_inv hok cs (List.mem_of_getElem? hi')).2, fun j c hj => ?_⟩
                obtain ⟨v, q3, q4⟩ := q2 j c hj
                refine ⟨v, ?_, q4⟩
                have hjl : j < i.size := by rw [← q1]; exact (List.getElem?_eq_some_iff.1 hj).1
                have m1 : off * i.size ≤ i' * i.size := Nat.mul_le_mul_right _ hin.1
                have m2 : (i' + 1) * i.size ≤ (off + k) * i.size := Nat.mul_le_mul_right _ hin.2
                have m3 : (i' - off) * i.size = i' * i.size - off * i.size := Nat.sub_mul _ _ _
                rw [Nat.add_mul, Nat.add_mul] at m2
                rw [hget, if_pos (by omega), show i' * i.size + j - off * i.size = (i' - off) * i.size + j by omega]
                exact q3
              · rename_i hout
                obtain ⟨q1, q2, q3⟩ := hB _ cs hi'
                refine ⟨q1, q2, fun j c hj => ?_⟩
                obtain ⟨v, q4, q5⟩ := q3 j c hj
                refine ⟨v, ?_, q5⟩
                have hjl : j < i.size := by rw [← q1]; exact (List.getElem?_eq_some_iff.1 hj).1
                rw [hget, if_neg]
                · exact q4
                · rintro ⟨b1, b2⟩
                  rcases Nat.lt_or_ge i' off with hlt | hge
                  · have : (i' + 1) * i.size ≤ off * i.size := Nat.mul_le_mul_right _ hlt
                    rw [Nat.add_mul] at this
                    omega
                  · have : (off + k) * i.size ≤ i' * i.size := Nat.mul_le_mul_right _ (by omega)
                    rw [Nat.add_mul] at this
                    omega
          · simp at hs
        · simp at hs
      · simp at hs
theorem copy_store {h : Heap} (R : Rel G h w) {sz b ep off len : Nat} {ty' : TypeId} {rows : List (List V)} {new : List (List V)} {news : List Value} {rd : Value} (hfl : RepFlat G sz new news) (hd : RepV G (.hsl b ep off len) rd) (eq : h[b]? = some (.row ty' sz ep rows)) (hol : off + len ≤ rows.length)
    (hok : newOk sz new = true) (hne : new.length ≠ 0) (hkl2 : new.length ≤ len) :
    ∃ a cap w', rd = .slice (some a) len cap ∧ (storeCells a news 0).run P w = .ok () w' ∧ Rel G (h.set b (.row ty' sz ep (rows.take off ++ new ++ rows.drop (off + new.length)))) w' ∧ Bel G w w' := by
  obtain ⟨_, L, rs, hL, hLe, hLs, hcp, hw, hsz, hB⟩ := R.row _ _ _ _ _ eq
  simp only [RepV] at hd
  obtain ⟨hb, a', cap', hr, hLx⟩ := hd
  obtain ⟨h1, h2⟩ := hLx L hL
  obtain ⟨h3, h4, h5⟩ := h2 hLe.symm
  have ha := h5 (by omega)
  rw [hLs] at ha
  subst ha
  have hone := hfl.one fun r hr => (newOk_inv hok r hr).2
  generalize hk : new.length = k at hne hkl2
  have hcl : news.length = k * sz := by rw [hfl.1, hk]
  have hroom : (off + k) * sz ≤ L.cp * sz := Nat.mul_le_mul_right _ (by omega)
  rw [Nat.add_mul] at hroom
  have hstore := run_storeCells_at (P := P) L.blk (off * sz) ty' news 0 rs w hw (by rw [hcl, hsz]; omega) hone
  refine ⟨_, cap', _, hr, hstore, ?_, bel_setRow R (b := b) (by unfold Tie.real; rw [eq]; simp [hL]) _⟩
  have := R.setRowAt (rows' := rows.take off ++ new ++ rows.drop (off + k)) (L' := L) (w' := w.setRow L.blk (rs.toList.take (off * sz + 0) ++ news ++ rs.toList.drop (off * sz + 0 + news.length)).toArray)
    (rs' := (rs.toList.take (off * sz + 0) ++ news ++ rs.toList.drop (off * sz + 0 + news.length)).toArray)
    eq hL (Nat.le_refl _) (fun _ => rfl) hLe hLs (by
      simp only [List.length_append, List.length_take, List.length_drop]
      omega) (.inl rfl) (by simp) (fun c hc _ => setRow_other w _ _ _ hc) (setRow_heap w _ _ _ _ _ hw)
    (by
      simp only [List.size_toArray, List.length_append, List.length_take, List.length_drop, Array.length_toList, hsz, hcl]
      omega) ?_
  · rwa [Tie.setRow_same hL] at this
  · intro i' cs hi'
    rw [← hk] at hi'
    rw [getElem?_put _ _ _ _ (by omega), hk] at hi'
    have hget : ∀ p, (rs.toList.take (off * sz + 0) ++ news ++ rs.toList.drop (off * sz + 0 + news.length)).toArray[p]? =
        if off * sz ≤ p ∧ p < off * sz + k * sz then news[p - off * sz]? else rs[p]? := by
      intro p
      rw [List.getElem?_toArray, Nat.add_zero, getElem?_put _ _ _ _ (by rw [hcl]; simp only [Array.length_toList]; omega), hcl, Array.getElem?_toList (xs := rs)]
    split at hi'
    · rename_i hin
      obtain ⟨q1, q2⟩ := hfl.2 _ cs hi'
      refine ⟨q1, (newOk_inv hok cs (List.mem_of_getElem? hi')).2, fun j c hj => ?_⟩
      obtain ⟨v, q3, q4⟩ := q2 j c hj
      refine ⟨v, ?_, q4⟩
      have hjl : j < sz := by rw [← q1]; exact (List.getElem?_eq_some_iff.1 hj).1
      have m1 : off * sz ≤ i' * sz := Nat.mul_le_mul_right _ hin.1
      have m2 : (i' + 1) * sz ≤ (off + k) * sz := Nat.mul_le_mul_right _ hin.2
      have m3 : (i' - off) * sz = i' * sz - off * sz := Nat.sub_mul _ _ _
      rw [Nat.add_mul, Nat.add_mul] at m2
      rw [hget, if_pos (by omega), show i' * sz + j - off * sz = (i' - off) * sz + j by omega]
      exact q3
    · rename_i hout
      obtain ⟨q1, q2, q3⟩ := hB _ cs hi'
      refine ⟨q1, q2, fun j c hj => ?_⟩
      obtain ⟨v, q4, q5⟩ := q3 j c hj
      refine ⟨v, ?_, q5⟩
      have hjl : j < sz := by rw [← q1]; exact (List.getElem?_eq_some_iff.1 hj).1
      rw [hget, if_neg]
      · exact q4
      · rintro ⟨b1, b2⟩
        rcases Nat.lt_or_ge i' off with hlt | hge
        · have : (i' + 1) * sz ≤ off * sz := Nat.mul_le_mul_right _ hlt
          rw [Nat.add_mul] at this
          omega
        · have : (off + k) * sz ≤ i' * sz := Nat.mul_le_mul_right _ (by omega)
          rw [Nat.add_mul] at this
          omega
theorem zeroCells_get {z : Array Value} {n k : Nat} (hk : k < n * z.size) : (Builtin.zeroCells z n).toList[k]? = z.toList[k % z.size]? := by
  have hz : 0 < z.size := by
    rcases Nat.eq_zero_or_pos z.size with e | e
    · rw [e] at hk; simp at hk
    · exact e
  have hm := Nat.mod_lt k hz
  rw [Array.getElem?_toList, Array.getElem?_toList]
  simp [Builtin.zeroCells, hk, hm]
theorem zeros_flat {z : Array Value} {zs : List V} {n : Nat} (hz : RepL G zs z.toList) : RepFlat G zs.length (List.replicate n zs) (Builtin.zeroCells z n).toList := by
  have hl : z.size = zs.length := by have := hz.length; simpa using this
  refine ⟨by simp [Builtin.zeroCells, hl], fun i cs hi => ?_⟩
  rw [List.getElem?_replicate] at hi
  split at hi
  · rename_i hin
    injection hi with hi
    subst hi
    refine ⟨rfl, fun j c hj => ?_⟩
    obtain ⟨v, hv, hr⟩ := hz.get hj
    have hjl : j < zs.length := (List.getElem?_eq_some_iff.1 hj).1
    have hlt : i * zs.length + j < n * z.size := by
      rw [hl]
      have : (i + 1) * zs.length ≤ n * zs.length := Nat.mul_le_mul_right _ hin
      rw [Nat.add_mul] at this
      omega
    refine ⟨v, ?_, hr⟩
    rw [zeroCells_get hlt, hl, show (i * zs.length + j) % zs.length = j by rw [Nat.mul_comm, Nat.mul_add_mod]; exact Nat.mod_eq_of_lt hjl]
    exact hv
  · simp at hi
theorem clear_run {h h' : Heap} (R : Rel G h w) {t ty e : TypeId} {sz base k n : Nat} {d : V} {zs : List V} {rd : Value} (ht : P.underlying t = some (.slice e)) (hg : growElem P e = some sz) (hz : zeroO P e = some zs)
    (hd : RepV G d rd) (hn : zk d = some n) (hs : copyV base h sz d (List.replicate n zs) = some (k, h')) :
    ∃ w', (Builtin.clear_ #[t] ty #[rd]).run P w = .ok (.tuple #[]) w' ∧ Rel G h' w' ∧ Bel G w w' := by
  simp only [zeroO, Option.bind_eq_some_iff] at hz
  obtain ⟨z, ⟨i, hi, hzz⟩, hsc⟩ := hz
  obtain ⟨a, cap, rfl⟩ := slcLen_run hd hn
  unfold copyV at hs
  rw [hn] at hs
  simp only [List.length_replicate, Nat.min_self] at hs
  split at hs
  · rename_i h0
    subst h0
    simp only [Option.some.injEq, Prod.mk.injEq] at hs
    obtain ⟨_, rfl⟩ := hs
    refine ⟨w, ?_, R, Bel.refl _ _⟩
    cases a <;> simp [Builtin.clear_, run_underlying ht]
  · rename_i hne
    split at hs
    · rename_i b ep off len
      simp only [zk, Option.some.injEq] at hn
      subst hn
      split at hs
      · rename_i ty' z' e' rows eq
        split at hs
        · rename_i hc
          obtain ⟨rfl, rfl, hol, hok, _⟩ := hc
          simp only [Option.some.injEq, Prod.mk.injEq] at hs
          obtain ⟨rfl, rfl⟩ := hs
          have htk : (List.replicate len zs).take (min (List.replicate len zs).length len) = List.replicate len zs := by simp
          simp only [List.length_replicate, Nat.min_self] at htk hok ⊢
          have hfl := zeros_flat (G := G) (n := len) (scsOf_rep (G := G) hsc)
          have hzl : zs.length = z' := by
            have hp := newOk_inv hok zs (by rw [htk]; exact List.mem_replicate.2 ⟨hne, rfl⟩)
            exact hp.1
          rw [hzl] at hfl
          rw [htk] at hok ⊢
          obtain ⟨a2, cap2, w', hr, hst, hR, hB⟩ := copy_store (P := P) R hfl hd eq hol hok (by simpa using hne) (by simp)
          injection hr with hr1 hr2 hr3
          subst hr1
          refine ⟨w', ?_, hR, hB⟩
          cases len with
          | zero => exact absurd rfl hne
          | succ m => simp [Builtin.clear_, run_underlying ht, zeroValue, typeInfo, hi, hzz, hst]
        · simp at hs
      · simp at hs
    · simp at hs
end
end
section
section
variable {P : Program} {G : Tie} {w : World}
def All2 {α β : Type} (R : α → β → Prop) : List α → List β → Prop
  | [], bs => bs = []
  | a :: as, bs => ∃ b rest, bs = b :: rest ∧ R a b ∧ All2 R as rest
theorem fold_set : ∀ (vs : List Value) (k off : Nat) (cells : Array Value), off + k + vs.length ≤ cells.size →
    ((vs.zipIdx k).foldl (fun cs p => cs.setIfInBounds (off + p.2) p.1) cells).toList = cells.toList.take (off + k) ++ vs ++ cells.toList.drop (off + k + vs.length)
  | [], k, off, cells, _ => by simp
  | v :: vs, k, off, cells, h => by
    simp only [List.length_cons] at h
    simp only [List.zipIdx_cons, List.foldl_cons]
    rw [fold_set vs (k + 1) off _ (by simp; omega)]
    have e := list_seg_step cells.toList (off + k) v vs (by simp; omega)
    simp only [Array.toList_setIfInBounds, List.length_cons]
    rw [show off + (k + 1) = off + k + 1 by omega]
    exact e
theorem fold_setA (vs : Array Value) (off : Nat) (cells : Array Value) (h : off + vs.size ≤ cells.size) :
    (vs.zipIdx.foldl (fun cs (p : Value × Nat) => cs.setIfInBounds (off + p.2) p.1) cells).toList = cells.toList.take off ++ vs.toList ++ cells.toList.drop (off + vs.toList.length) := by
  rw [← Array.foldl_toList, Array.toList_zipIdx]
  have := fold_set vs.toList 0 off cells (by simpa using h)
  simpa using this
theorem fillParts_run (place : Nat → Option (Nat × Nat)) : ∀ {ps : List (Nat × Nat × V)} {rs : List (Nat × Value)} {zs cs : List V} {cells : Array Value}, RepL G zs cells.toList → fillParts zs ps = some cs →
    All2 (fun p r => place r.1 = some (p.1, p.2.1) ∧ RepV G p.2.2 r.2) ps rs → ∃ cells', Instr.fill place cells rs = some cells' ∧ RepL G cs cells'.toList
  | [], rs, zs, cs, cells, hz, h, hf => by
    simp only [All2] at hf
    subst hf
    simp only [fillParts, Option.some.injEq] at h
    subst h
    exact ⟨cells, rfl, hz⟩
  | (off, sz, v) :: ps, rs, zs, cs, cells, hz, h, hf => by
    simp only [All2] at hf
    obtain ⟨⟨i, rv⟩, rs, rfl, ⟨hp, hv⟩, hf⟩ := hf
    · simp only at hp hv
      unfold fillParts at h
      split at h
      · rename_i hc
        obtain ⟨hl, hone, hle⟩ := hc
        have hvu : v ≠ .undef := by
          rintro rfl
          simp [V.cells, zm] at hone
        have hcells := hv.cells hvu
        have hsz : rv.cells.size = sz := by rw [← Array.length_toList, hcells.length, hl]
        have hzl : cells.size = zs.length := by rw [← Array.length_toList, hz.length]
        have hput := hz.put (off := off) hcells
        unfold Instr.fill
        simp only [hp]
        rw [if_neg (by simp [hsz]; omega)]
        refine fillParts_run place ?_ h hf
        rw [fold_setA _ _ _ (by omega)]
        exact hput
      · simp at h
theorem fillRows_run {sz n : Nat} : ∀ {ps : List (Nat × V)} {rs : List (Nat × Value)} {zs cs : List (List V)} {cells : Array Value}, RepFlat G sz zs cells.toList → zv sz zs ps = some cs →
    All2 (fun p r => p.1 = r.1 ∧ RepV G p.2 r.2) ps rs → ∃ cells', Instr.fill (fun i => some (i * sz, sz)) cells rs = some cells' ∧ RepFlat G sz cs cells'.toList
  | [], rs, zs, cs, cells, hz, h, hf => by
    simp only [All2] at hf
    subst hf
    simp only [zv, Option.some.injEq] at h
    subst h
    exact ⟨cells, rfl, hz⟩
  | (i, v) :: ps, rs, zs, cs, cells, hz, h, hf => by
    simp only [All2] at hf
    obtain ⟨⟨i', rv⟩, rs, rfl, ⟨hii, hv⟩, hf⟩ := hf
    · simp only at hii hv
      subst hii
      unfold zv at h
      split at h
      · rename_i hc
        obtain ⟨hl, hone, hlt⟩ := hc
        have hvu : v ≠ .undef := by
          rintro rfl
          simp [V.cells, zm] at hone
        have hcells := hv.cells hvu
        have hsz : rv.cells.size = sz := by rw [← Array.length_toList, hcells.length, hl]
        have hzl : cells.size = zs.length * sz := by rw [← Array.length_toList, hz.1]
        have hroom : i * sz + sz ≤ cells.size := row_room hzl (Nat.le_refl _) hlt
        unfold Instr.fill
        simp only
        rw [if_neg (by simp [hsz]; omega)]
        refine fillRows_run (n := n) ?_ h hf
        rw [fold_setA _ _ _ (by omega)]
        have hrl : rv.cells.toList.length = sz := by simpa using hsz
        refine ⟨by rw [List.length_append, List.length_append, List.length_take, List.length_drop, Array.length_toList, hrl, List.length_set, Nat.min_eq_left (by omega)]; omega, fun k cs' hk => ?_⟩
        by_cases e : k = i
        · subst e
          rw [List.getElem?_set_self hlt] at hk
          injection hk with hk
          subst hk
          refine ⟨hl, fun j c hj => ?_⟩
          obtain ⟨u, h2, h3⟩ := hcells.get hj
          have hjl := (List.getElem?_eq_some_iff.1 hj).1
          refine ⟨u, ?_, h3⟩
          rw [getElem?_put _ _ _ _ (by simp [hrl]; omega), if_pos (by omega), show k * sz + j - k * sz = j by omega]
          exact h2
        · rw [List.getElem?_set_ne (by omega)] at hk
          obtain ⟨h2, h3⟩ := hz.2 k cs' hk
          refine ⟨h2, fun j c hj => ?_⟩
          obtain ⟨u, h4, h5⟩ := h3 j c hj
          have hjl := (List.getElem?_eq_some_iff.1 hj).1
          refine ⟨u, ?_, h5⟩
          rw [getElem?_put _ _ _ _ (by simp [hrl]; omega), if_neg]
          · exact h4
          · intro hh
            obtain ⟨hh1, hh2⟩ := hh
            have := row_index_inj (sz := sz) (i := k) (j := j) (i' := i) (j' := k * sz + j - i * sz) (by omega) (by omega) (by omega)
            exact e this.1
      · simp at h
theorem made_flat {sz n : Nat} {z : Array Value} {zs : List V} (hz : scsOf z.toList = some zs) (hs : z.size = sz) : RepFlat G sz (List.replicate n zs) (madeCells z (n * sz)).toList := by
  have hrep : RepL G zs z.toList := scsOf_rep hz
  refine ⟨by simp [size_madeCells], fun i cs hi => ?_⟩
  rw [List.getElem?_replicate] at hi
  split at hi
  · rename_i hlt
    injection hi with hi
    subst hi
    have hzl : zs.length = sz := by rw [← hrep.length]; simpa using hs
    refine ⟨hzl, fun j c hj => ?_⟩
    obtain ⟨u, h1, h2⟩ := hrep.get hj
    have hjl := (List.getElem?_eq_some_iff.1 hj).1
    refine ⟨u, ?_, h2⟩
    have hb : i * sz + j < n * sz := by
      have : (i + 1) * sz ≤ n * sz := Nat.mul_le_mul_right _ (by omega)
      rw [Nat.add_mul] at this
      omega
    have hm : (i * sz + j) % z.size = j := by
      rw [hs, Nat.mul_comm, Nat.mul_add_mod, Nat.mod_eq_of_lt (by omega)]
    rw [Array.getElem?_toList] at h1 ⊢
    unfold madeCells
    simp only [Array.getElem?_map, Array.getElem?_range, hb, if_true, Option.map_some, hm]
    rw [getElem!_pos z j (by omega)]
    have := (Array.getElem?_eq_some_iff.1 h1).2
    rw [this]
  · simp at hi
def Tie.newFz (G : Tie) (k : Nat) (cells : Array Value) : Tie := { G with fz := fun b o => if b = k then cells[o]? else G.fz b o }
theorem Ext.newFz {G : Tie} {h : Heap} {w : World} (R : Rel G h w) (cells : Array Value) : Ext G (G.newFz w.heap.size cells) where
  fz b o v hv := by
    simp only [Tie.newFz]
    rw [if_neg]
    · exact hv
    · rintro rfl
      rw [R.fz_new] at hv
      simp at hv
  n := Nat.le_refl _
  bx _ _ := rfl
  rw _ _ L h := ⟨L, h, Nat.le_refl _, fun _ => rfl⟩
  b0 := rfl
  kp := rfl
theorem Rel.newFz {G : Tie} {h : Heap} {w : World} (R : Rel G h w) (cells : Array Value) (ty : TypeId) (fr : Nat × Nat) : Rel (G.newFz w.heap.size cells) h (w.alloc (.cells cells ty fr)) := by
  have x := Ext.newFz R cells
  have R' := R.world (w' := w.alloc (.cells cells ty fr)) (by simp) (fun k hk => heap_alloc_lt _ _ _ hk)
  have hreal : ∀ b, (G.newFz w.heap.size cells).real h b = G.real h b := fun _ => rfl
  refine ⟨R.n, ?_, ?_, ?_, ?_, ?_, ?_, R'.hb0, fun c hc => ?_⟩
  · intro b o v hv
    simp only [Tie.newFz] at hv
    split at hv
    · rename_i e
      subst e
      unfold World.cell?
      rw [heap_alloc_eq]
      simpa using hv
    · exact R'.fz b o v hv
  · intro b t cs e
    obtain ⟨h1, rs, h2, h3⟩ := R'.box b t cs e
    exact ⟨h1, rs, h2, h3.ext x⟩
  · intro b t sz e rows eq
    obtain ⟨h0, L, rs, h1, h2, h3, h4, h5, h6, h7⟩ := R'.row b t sz e rows eq
    exact ⟨h0, L, rs, h1, h2, h3, h4, h5, h6, h7.ext x⟩
  · intro b es e
    obtain ⟨l, clock, h1, h2⟩ := R'.mp b es e
    exact ⟨l, clock, h1, h2.ext x⟩
  · intro b k hk
    rw [hreal] at hk
    refine ⟨(R.low b k hk).1, fun o => ?_⟩
    simp only [Tie.newFz]
    have := R.lt hk
    rw [if_neg (by omega)]
    exact (R.low b k hk).2 o
  · intro b b' k h1 h2
    exact R.inj b b' k h1 h2
  · obtain ⟨k1, k2, k3⟩ := R'.kp c hc
    refine ⟨k1, fun o => ?_, k3⟩
    simp only [Tie.newFz]
    have := (R.kp c hc).1
    rw [if_neg (by omega)]
    exact k2 o
theorem Rel.newSlc {G : Tie} {h : Heap} {w : World} (R : Rel G h w) {ex : Cp} {sz : Nat} {rows : List (List V)} {cells : List Value} {rest : List Value} {cap : Nat} (hf : RepFlat G sz rows cells) (hg : (rows.all fun r => r.all ground) = true)
    (hc : rows.length ≤ cap) (hex : ex.isFull = true → cap = rows.length) (ty : TypeId) (fr : Nat × Nat) :
    Rel (G.newFz w.heap.size (cells ++ rest).toArray) h (w.alloc (.cells (cells ++ rest).toArray ty fr)) ∧ RepV (G.newFz w.heap.size (cells ++ rest).toArray) (.slc ex sz rows) (.slice (some ⟨w.heap.size, 0, none⟩) rows.length cap) := by
  refine ⟨R.newFz _ ty fr, ?_⟩
  have x := Ext.newFz R (cells ++ rest).toArray
  simp only [RepV]
  refine ⟨_, _, rfl, hc, hex, hg, w.heap.size, 0, fun _ => rfl, fun _ _ => R.hb0, RepRows.of_get fun i cs hi => ?_⟩
  obtain ⟨h1, h2⟩ := hf.2 i cs hi
  refine ⟨h1, RepF.of_get fun j c hj => ?_⟩
  obtain ⟨v, h3, h4⟩ := h2 j c hj
  refine ⟨v, ?_, h4.ext x⟩
  simp only [Tie.newFz, if_true]
  rw [List.getElem?_toArray, Nat.zero_add, List.getElem?_append_left (List.getElem?_eq_some_iff.1 h3).1]
  exact h3
end
end
section
open Go.RowKit (Below)
section
variable {P : Program} {G : Tie} {h h' : Heap} {w : World}
theorem boxAt_inv {b : Nat} {t : TypeId} {cs : List V} (hb : boxAt h b = some (t, cs)) : h[b]? = some (.box t cs) := by
  unfold boxAt at hb
  split at hb
  · rename_i e
    simp only [Option.some.injEq, Prod.mk.injEq] at hb
    obtain ⟨rfl, rfl⟩ := hb
    exact e
  · simp at hb
theorem shape_of_heap {b : Nat} {rs : Array Value} {t : TypeId} {fr : Nat × Nat} (hw : w.heap[b]? = some (.cells rs t fr)) : w.shape? b = some (t, rs.size) := by
  simp [World.shape?, hw]
theorem uncast_run {src dst t : TypeId} {s : Nat} {x v : V} {r : Value} (R : Rel G h w) (hs : P.underlying src = some (.pointer t)) (hd : P.underlying dst = some .unsafePointer) (hz : sizeO P t = some s) (h0 : s ≠ 0)
    (hx : RepV G x r) (hv : uncastV h x = some v) : (convert src dst r).run P w = .ok r w ∧ RepV G v r := by
  obtain ⟨i, hi, rfl⟩ : ∃ i, P.info? t = some i ∧ i.size = s := by simpa [sizeO] using hz
  unfold uncastV at hv
  split at hv
  · injection hv with hv
    subst hv
    have := hx.sc_inv
    subst this
    refine ⟨?_, hx⟩
    simp [convert, run_underlying hs, run_underlying hd, Conv.unsafePointer]
  · simp only [Option.bind_eq_some_iff] at hv
    obtain ⟨⟨ty, cs⟩, hb, hv⟩ := hv
    split at hv
    · rename_i hlt
      injection hv with hv
      subst hv
      have hx' := hx
      simp only [RepV] at hx'
      obtain ⟨_, rfl⟩ := hx'
      obtain ⟨_, rs, hw, hl⟩ := R.box _ _ _ (boxAt_inv hb)
      have hlen := hl.length
      simp only [Array.length_toList] at hlen
      exact ⟨Lib.run_to_unsafe w _ hs hd hi h0 (shape_of_heap hw) (by simp only at hlt ⊢; omega), hx⟩
    · simp at hv
  · simp at hv
theorem cast_run {src dst u : TypeId} {s : Nat} {x v : V} {r : Value} (R : Rel G h w) (hs : P.underlying src = some .unsafePointer) (hd : P.underlying dst = some (.pointer u)) (hz : sizeO P u = some s)
    (hlies : liesAt P P.depth u (s / P.cellsOf u) 0 u 1 = true) (hx : RepV G x r) (hv : castV h u s x = some v) : (convert src dst r).run P w = .ok r w ∧ RepV G v r := by
  obtain ⟨i, hi, rfl⟩ : ∃ i, P.info? u = some i ∧ i.size = s := by simpa [sizeO] using hz
  unfold castV at hv
  split at hv
  · injection hv with hv
    subst hv
    have := hx.sc_inv
    subst this
    refine ⟨?_, hx⟩
    simp [convert, run_underlying hs, run_underlying hd, Conv.unsafePointer]
  · simp only [Option.bind_eq_some_iff] at hv
    obtain ⟨⟨ty, cs⟩, hb, hv⟩ := hv
    split at hv
    · rename_i hc
      simp only at hc
      obtain ⟨rfl, hlen⟩ := hc
      injection hv with hv
      subst hv
      have hx' := hx
      simp only [RepV] at hx'
      obtain ⟨_, rfl⟩ := hx'
      obtain ⟨_, rs, hw, hl⟩ := R.box _ _ _ (boxAt_inv hb)
      have hl2 := hl.length
      simp only [Array.length_toList] at hl2
      refine ⟨Lib.run_from_unsafe w _ hs hd hi (shape_of_heap hw) ?_, hx⟩
      simp only
      rw [hl2, hlen]
      exact hlies
    · simp at hv
  · simp at hv
theorem samePtr_run {op : BinOp} {t e : TypeId} {s : Nat} {neg : Bool} {x y : V} {b : Bool} {rx ry : Value} (R : Rel G h w) (hop : op = if neg then .neq else .eql) (ht : P.underlying t = some (.pointer e)) (hz : sizeO P e = some s) (h0 : s ≠ 0)
    (hx : RepV G x rx) (hy : RepV G y ry) (hv : samePtr h x y = some b) (ox oy : Operand) : (do eqGuard op t ox oy rx ry; binOp op t rx ry : Sem Value).run P w = .ok (.bool (if neg then !b else b)) w := by
  obtain ⟨i, hi, rfl⟩ : ∃ i, P.info? e = some i ∧ i.size = s := by simpa [sizeO] using hz
  have key : ∀ {p q : Option Addr} (c : Bool), rx = .pointer p → ry = .pointer q → (∀ d, (Op.equalIn (d + 1) t (.pointer p) (.pointer q)).run P w = .ok c w) → b = c → (do eqGuard op t ox oy rx ry; binOp op t rx ry : Sem Value).run P w = .ok (.bool (if neg then !b else b)) w := by
    rintro p q c rfl rfl h3 rfl
    have h4 : (Op.equal t (.pointer p) (.pointer q)).run P w = .ok b w := by
      simp only [Op.equal, Op.maxDepth]
      exact h3 9999
    have h5 : (eqGuard op t ox oy (.pointer p) (.pointer q)).run P w = .ok () w := by
      cases neg <;> simp only [Bool.false_eq_true, if_false, if_true] at hop <;> subst hop <;> simp [eqGuard]
    simp only [Sem.run_bind, h5, Result.andThen_ok]
    cases neg
    · simp only [Bool.false_eq_true, if_false] at hop ⊢
      subst hop
      simp only [binOp, Sem.run_bind, h4, Result.andThen_ok, Sem.run_pure]
    · simp only [if_true] at hop ⊢
      subst hop
      simp only [binOp, Sem.run_bind, h4, Result.andThen_ok, Sem.run_pure]
  unfold samePtr at hv
  split at hv
  · injection hv with hv
    exact key true hx.sc_inv hy.sc_inv (fun d => by simp [Op.equalIn, run_underlying ht]) hv.symm
  · injection hv with hv
    simp only [RepV] at hy
    obtain ⟨_, rfl⟩ := hy
    exact key false hx.sc_inv rfl (fun d => by simp [Op.equalIn, run_underlying ht]) hv.symm
  · injection hv with hv
    simp only [RepV] at hx
    obtain ⟨_, rfl⟩ := hx
    exact key false rfl hy.sc_inv (fun d => by simp [Op.equalIn, run_underlying ht]) hv.symm
  · rename_i b1 o1 b2 o2
    simp only [Option.bind_eq_some_iff, Option.map_eq_some_iff] at hv
    obtain ⟨⟨t1, cs1⟩, hb1, ⟨t2, cs2⟩, hb2, hv⟩ := hv
    simp only [RepV] at hx hy
    obtain ⟨_, rfl⟩ := hx
    obtain ⟨_, rfl⟩ := hy
    have e1 := boxAt_inv hb1
    have e2 := boxAt_inv hb2
    obtain ⟨_, rs1, hw1, _⟩ := R.box _ _ _ e1
    obtain ⟨_, rs2, hw2, _⟩ := R.box _ _ _ e2
    have hsame : (sameAddr ⟨G.bx b1, o1, none⟩ ⟨G.bx b2, o2, none⟩).run P w = .ok (b1 == b2 && o1 == o2) w := by
      by_cases he : (⟨G.bx b1, o1, none⟩ : Addr) = ⟨G.bx b2, o2, none⟩
      · rw [he, run_sameAddr_same]
        injection he with he1 he2
        have : b1 = b2 := R.inj b1 b2 (G.bx b1) (by unfold Tie.real; rw [e1]) (by unfold Tie.real; rw [e2, he1])
        simp [this, he2]
      · rw [run_sameAddr_other w he hw1 hw2]
        have : (b1 == b2 && o1 == o2) = false := by
          by_cases hbb : b1 = b2
          · subst hbb
            have : o1 ≠ o2 := fun e => he (by rw [e])
            simp [this]
          · simp [hbb]
        rw [this]
    refine key (b1 == b2 && o1 == o2) rfl rfl (fun d => ?_) hv.symm
    simp [Op.equalIn, run_underlying ht, sizeOf, typeInfo, hi, h0, hsame]
  · simp at hv
theorem sliceData_run {ts : Array TypeId} {ty : TypeId} {x v : V} {r : Value} (R : Rel G h w) (hx : RepV G x r) (hv : sliceDataV h x = some v) : ∃ rv, (Builtin.unsafeSliceData_ ts ty #[r]).run P w = .ok rv w ∧ RepV G v rv := by
  unfold sliceDataV at hv
  split at hv
  · injection hv with hv
    subst hv
    have := hx.sc_inv
    subst this
    exact ⟨.pointer none, Lib.run_unsafeSliceData_nil w ts ty 0 0, by simp [RepV, Value.oneCell']⟩
  · rename_i b e off len
    split at hv
    · rename_i z hr
      split at hv
      · rename_i hpos
        injection hv with hv
        subst hv
        obtain ⟨sz, rows⟩ := z
        obtain ⟨t, eq, _, L, rs, hL, hLe, hLs, hcp, hw, hsz, hB⟩ := R.rowAt hr
        simp only [RepV] at hx
        obtain ⟨hb, a, cap, rfl, hLx⟩ := hx
        obtain ⟨h1, h2⟩ := hLx L hL
        obtain ⟨h3, h4, h5⟩ := h2 hLe.symm
        refine ⟨.pointer (some a), Lib.run_unsafeSliceData_row w ts ty a len cap (by omega), ?_⟩
        simp only [RepV]
        refine ⟨hb, a, rfl, fun L' hL' => ?_⟩
        rw [hL] at hL'
        injection hL' with hL'
        subst hL'
        exact ⟨h1, fun _ => by rw [h5 (by omega), Nat.add_zero]⟩
      · simp at hv
    · simp at hv
  · simp at hv
theorem bytesIn_map : ∀ {rows : List (List V)} {l : List UInt8}, bytesIn rows = some l → ∃ ns : List Int, rows = ns.map (fun n => [V.sc (.int .u8 n)]) ∧ l = ns.map fun n => UInt8.ofNat n.toNat
  | [], l, h => by simp [bytesIn] at h; subst h; exact ⟨[], rfl, rfl⟩
  | r :: rows, l, h => by
    unfold bytesIn at h
    split at h
    · rename_i e; simp at e
    · rename_i n r' e
      simp only [List.cons.injEq] at e
      obtain ⟨rfl, rfl⟩ := e
      simp only [Option.map_eq_some_iff] at h
      obtain ⟨l', h1, rfl⟩ := h
      obtain ⟨ns, rfl, rfl⟩ := bytesIn_map h1
      exact ⟨n :: ns, rfl, rfl⟩
    · simp at h
theorem run_loadBytes_ints : ∀ (ns : List Int) (a : Addr) (acc : ByteArray), (∀ j n, ns[j]? = some n → w.cell? (a.add j) = some (.int .u8 n)) →
    (loadBytes a acc ns.length).run P w = .ok ⟨acc.data ++ (ns.map fun n => UInt8.ofNat n.toNat).toArray⟩ w
  | [], a, acc, _ => by simp [loadBytes]
  | x :: l, a, acc, h => by
    have h0 : w.cell? a = some (.int .u8 x) := by
      have := h 0 x rfl
      simpa [Addr.add] using this
    have ih := run_loadBytes_ints l (a.add 1) (acc.push x.toNat.toUInt8) (fun j y hy => by
      have := h (j + 1) y (by simpa using hy)
      have e : (a.add 1).add j = a.add (j + 1) := by
        unfold Addr.add
        by_cases hj : j = 0
        · subst hj; simp
        · simp [hj]; omega
      rw [e]; exact this)
    simp only [List.length_cons, loadBytes, Sem.run_bind, run_load, h0, Result.andThen]
    rw [ih]
    congr 1
    apply ByteArray.ext
    simp [ByteArray.push]
theorem run_unsafeString_ints (pt it ty e : TypeId) (hp : P.underlying pt = some (.pointer e)) (hc : P.cellsOf e = 1) (g cells : Nat) (hsh : w.shape? g = some (e, cells)) (ns : List Int) (h0 : ns.length ≠ 0) (hn : ns.length ≤ cells) (h63 : ns.length ≤ 9223372036854775807)
    (hcell : ∀ j x, ns[j]? = some x → w.cell? ((⟨g, 0, none⟩ : Addr).add j) = some (.int .u8 x)) :
    (Builtin.unsafeString_ #[pt, it] ty #[.pointer (some ⟨g, 0, none⟩), .int .i64 ns.length]).run P w = .ok (.string ⟨(ns.map fun n => UInt8.ofNat n.toNat).toArray⟩) (w.freeze ⟨g, 0, none⟩ ns.length) := by
  have hlb := run_loadBytes_ints (P := P) (w := w) ns ⟨g, 0, none⟩ .empty hcell
  have hlies := Lib.liesAt_bytes (P := P) hc (cells / P.cellsOf e) ns.length (by rw [hc]; simpa using hn)
  have h63' : ¬ (9223372036854775807 : Int) < (ns.length : Int) := by omega
  have hdef : Builtin.unsafeString_ #[pt, it] ty #[.pointer (some ⟨g, 0, none⟩), .int .i64 ns.length] =
      (do
        let n ← asInt (.int .i64 ns.length)
        if n < 0 then runtimePanic (.error "unsafe.String: len out of range")
        if n > IntKind.i64.max then unsupported (.unsafePointer "String: a length above the largest int")
        if n = 0 then pure (.string .empty)
        else if ← variablesAt ⟨g, 0, none⟩ (← elemOf pt) n.toNat then do
          let s ← loadBytes ⟨g, 0, none⟩ .empty n.toNat
          freeze ⟨g, 0, none⟩ n.toNat
          pure (.string s)
        else unsupported (.unsafePointer "String: not so many bytes at ptr")) := rfl
  rw [hdef]
  have hmax : IntKind.i64.max = 9223372036854775807 := rfl
  have hneg : ¬ (ns.length : Int) < 0 := by omega
  have hz : ¬ ns = [] := by intro e; rw [e] at h0; exact h0 rfl
  simp [asInt, asIntOf, hmax, h63', hneg, hz, variablesAt, hsh, elemOf, run_underlying hp, hlies, hlb]
theorem strData_run {pt it ty u : TypeId} {k : Nat} {x v : V} {r : Value} (R : Rel G h w) (hp : P.underlying pt = some (.pointer u)) (hc : P.cellsOf u = 1) (hx : RepV G x r) (hv : strDataV h u k x = some (v, h')) :
    ∃ rv w', (Builtin.unsafeString_ #[pt, it] ty #[r, .int .i64 k]).run P w = .ok rv w' ∧ Rel G h' w' ∧ RepV G v rv ∧ Bel G w w' := by
  unfold strDataV at hv
  split at hv
  · split at hv
    · rename_i h0
      subst h0
      simp only [Option.some.injEq, Prod.mk.injEq] at hv
      obtain ⟨rfl, rfl⟩ := hv
      have := hx.sc_inv
      subst this
      exact ⟨_, w, Lib.run_unsafeString_none w pt it ty none, R, by simp [RepV, Value.oneCell'], Bel.refl _ _⟩
    · simp at hv
  · rename_i b e
    split at hv
    · rename_i t sz e' rows eq
      split at hv
      · rename_i hcond
        obtain ⟨rfl, rfl, rfl, hk0, hkl, hlim⟩ := hcond
        simp only [Option.map_eq_some_iff, Prod.mk.injEq] at hv
        obtain ⟨l, hl, rfl, rfl⟩ := hv
        obtain ⟨_, L, rs, hL, hLe, hLs, hcp, hw, hsz, hB⟩ := R.row _ _ _ _ _ eq
        simp only [RepV] at hx
        obtain ⟨hb, a, rfl, hLx⟩ := hx
        have ha := (hLx L hL).2 hLe.symm
        simp only [Nat.zero_mul, Nat.zero_add] at ha
        subst ha
        obtain ⟨ns, hns, rfl⟩ := bytesIn_map hl
        have hlen : ns.length = k := by
          have := congrArg List.length hns
          simp at this
          omega
        have hcell : ∀ (j : Nat) (x : Int), ns[j]? = some x → rs[j]? = some (.int .u8 x) := by
          intro j x hj
          have hjl := (List.getElem?_eq_some_iff.1 hj).1
          have hrj : rows[j]? = some [V.sc (.int .u8 x)] := by
            have h1 : (rows.take k)[j]? = some [V.sc (.int .u8 x)] := by rw [hns]; simp [hj]
            rw [List.getElem?_take, if_pos (by omega)] at h1
            exact h1
          obtain ⟨_, _, h3⟩ := hB j _ hrj
          obtain ⟨v, h4, h5⟩ := h3 0 _ rfl
          have := h5.sc_inv
          subst this
          simpa using h4
        have hrun := run_unsafeString_ints (P := P) (w := w) pt it ty t hp hc L.blk rs.size (shape_of_heap hw) ns (by omega) (by rw [hsz, hlen]; omega) (by rw [hlen]; unfold lim at hlim; omega) (fun j x hj => by
          rw [add_none, Nat.zero_add]
          unfold World.cell?
          simp [hw, hcell j x hj])
        rw [hlen] at hrun
        have hreal : G.real h b = some L.blk := by unfold Tie.real; rw [eq]; simp [hL]
        have hlt : b < h.length := Rel.real_lt hreal
        have hfz : (w.freeze ⟨L.blk, 0, none⟩ k).heap.size = w.heap.size ∧ ∀ c, c ≠ L.blk → (w.freeze ⟨L.blk, 0, none⟩ k).heap[c]? = w.heap[c]? := by
          unfold World.freeze
          rw [if_neg (by omega)]
          refine ⟨by simp, fun c hc => ?_⟩
          simp only [Array.getElem?_modify]
          rw [if_neg (by simpa using Ne.symm hc)]
        refine ⟨_, _, hrun, ?_, by simp [RepV, Value.oneCell'], Lib.below_freeze (Below.refl _ _) (R.low b _ hreal).1 k, fun c hc => hfz.2 c (fun e => by rw [e, R.kp_of hreal] at hc; exact absurd hc (by simp))⟩
        refine R.put (Ext.refl G) b L.blk (fun c hc => by rw [List.getElem?_set_ne (by omega)]) (by simp [R.n]) rfl (fun _ _ => rfl) (fun _ _ => rfl) ?_ (R.low b _ hreal).1 (R.low b _ hreal).2 (R.kp_of hreal) (fun c hc e => hc (R.inj c b _ e hreal)) (by rw [hfz.1]; exact Nat.le_refl _) (fun c hc _ => hfz.2 c hc) ?_ ?_ ?_
        · intro k' hk'
          unfold Tie.real at hk'
          rw [List.getElem?_set_self hlt] at hk'
          simp at hk'
        · intro t' cs' e
          rw [List.getElem?_set_self hlt] at e
          simp at e
        · intro t' sz' e1 rows' e
          rw [List.getElem?_set_self hlt] at e
          simp at e
        · intro es e
          rw [List.getElem?_set_self hlt] at e
          simp at e
      · simp at hv
    · simp at hv
  · simp at hv
theorem cap_run {t e ty : TypeId} {x : V} {r : Value} {n : Nat} (ht : P.underlying t = some (.slice e)) (hx : RepV G x r) (hv : capV x = some n) : (Builtin.cap_ #[t] ty #[r]).run P w = .ok (.int .i64 n) w := by
  have key : ∀ (b : Option Addr) (l : Nat), r = .slice b l n → (Builtin.cap_ #[t] ty #[r]).run P w = .ok (.int .i64 n) w := by
    rintro b l rfl
    simp [Builtin.cap_, run_underlying ht, goInt]
  unfold capV at hv
  split at hv
  · injection hv with hv
    subst hv
    exact key none 0 hx.sc_inv
  · split at hv
    · rename_i hf
      injection hv with hv
      subst hv
      simp only [RepV] at hx
      obtain ⟨a, cap, rfl, _, hex, _⟩ := hx
      exact key a _ (by rw [hex hf])
    · simp at hv
  · simp at hv
end
end
section
open Go.RowKit (Below)
section
variable {P : Program} {gl : Nat → Option (List V)} {G : Tie} {en : Env} {h h' : Heap} {a : Act} {w : World} {o : Oper} {base : Nat} {v : V}
def OpOk (P : Program) (o : Oper) (a : Act) (G : Tie) (h' : Heap) (w : World) (v : V) : Prop :=
  ∃ r w' G', ((execOp a.eval o).run P w = .ok (.value r) w' ∨ ((execOp a.eval o).run P w = .ok .skip w' ∧ r = undef)) ∧ Ext G G' ∧ Rel G' h' w' ∧ RepV G' v r ∧ Bel G w w'
theorem OpOk.quiet {s : Sem Value} {r : Value} (R : Rel G h w) (he : execOp a.eval o = (do pure (.value (← s)))) (hr : s.run P w = .ok r w) (hv : RepV G v r) : OpOk P o a G h w v := by
  refine ⟨r, w, G, .inl ?_, Ext.refl G, R, hv, Bel.refl _ _⟩
  rw [he]
  simp only [Sem.run_bind, hr, Result.andThen_ok]
  rfl
theorem OpOk.value {s : Sem Value} {r : Value} {w' : World} {G' : Tie} (he : execOp a.eval o = (do pure (.value (← s)))) (hr : s.run P w = .ok r w') (x : Ext G G') (R : Rel G' h' w') (hv : RepV G' v r) (hb : Bel G w w') : OpOk P o a G h' w v := by
  refine ⟨r, w', G', .inl ?_, x, R, hv, hb⟩
  rw [he]
  simp only [Sem.run_bind, hr, Result.andThen_ok]
  rfl
theorem zeroO_run {t : TypeId} {zs : List V} (h : zeroO P t = some zs) (w : World) : ∃ z, (zeroValue t).run P w = .ok z w ∧ scsOf z.cells.toList = some zs := by
  simp only [zeroO, Option.bind_eq_some_iff] at h
  obtain ⟨z, ⟨i, hi, hz⟩, hs⟩ := h
  exact ⟨z, by simp [zeroValue, typeInfo, hi, hz], hs⟩
theorem ok_move {x : Operand} (hop : o.op = .move x ∨ o.op = .assign x) (hgl : GlobOk G gl) (he : RepEnv G en a.tmps) (R : Rel G h w) {y : Opd} (hc : opd gl x = some y) : OpOk P o a G h w (y.get en) := by
  refine ⟨a.eval x, w, G, .inl ?_, Ext.refl G, R, opd_rep hgl he hc, Bel.refl _ _⟩
  rcases hop with hop | hop <;> simp only [execOp, hop] <;> rfl
theorem ok_pick {c x y : Operand} {c' x' y' : Opd} {t : Bool} (hop : o.op = .pick c x y) (hgl : GlobOk G gl) (he : RepEnv G en a.tmps) (R : Rel G h w) (h1 : opd gl c = some c') (h2 : opd gl x = some x') (h3 : opd gl y = some y')
    (ht : c'.get en = .sc (.bool t)) : OpOk P o a G h w (if t then x'.get en else y'.get en) := by
  have hcv := opd_rep hgl he h1
  rw [ht] at hcv
  have hcv := hcv.sc_inv
  refine ⟨if t then a.eval x else a.eval y, w, G, .inl ?_, Ext.refl G, R, ?_, Bel.refl _ _⟩
  · simp [execOp, hop, hcv, asBool]
  · cases t
    · exact opd_rep hgl he h3
    · exact opd_rep hgl he h2
theorem ok_alloc {t : TypeId} {zs : List V} (hop : o.op = .alloc t) (R : Rel G h w) (hz : zeroO P t = some zs) : OpOk P o a G (h ++ [.box t zs]) w (.ptr h.length 0) := by
  obtain ⟨z, hr, hs⟩ := zeroO_run hz w
  refine OpOk.value (s := Instr.alloc t true (.tuple #[])) (r := .pointer (some ⟨w.heap.size, 0, none⟩)) (w' := w.alloc (.cells z.cells t (0, 0))) (by simp only [execOp, hop]) ?_ (Ext.newBox G w.heap.size) (R.newBox t (scsOf_one hs).1 (scsOf_rep hs)) ?_ (bel_alloc R _)
  · simp [Instr.alloc, hr, newVar, newRow]
  · simp [RepV, Tie.newBox, R.n]
theorem ok_box {t : TypeId} {x : Operand} {x' : Opd} (hop : o.op = .box t x) (hgl : GlobOk G gl) (he : RepEnv G en a.tmps) (R : Rel G h w) (h1 : opd gl x = some x') (hone : (x'.get en).cells.all zm = true) :
    OpOk P o a G (h ++ [.box t (x'.get en).cells]) w (.ptr h.length 0) := by
  have hx := opd_rep hgl he h1
  have hu : x'.get en ≠ .undef := by
    intro e
    rw [e] at hone
    simp [V.cells, zm] at hone
  refine OpOk.value (s := Instr.box t (a.eval x)) (r := .pointer (some ⟨w.heap.size, 0, none⟩)) (w' := w.alloc (.cells (a.eval x).cells t (0, 0))) (by simp only [execOp, hop]) ?_ (Ext.newBox G w.heap.size) (R.newBox t hone (hx.cells hu)) ?_ (bel_alloc R _)
  · simp [Instr.box, newVar, newRow]
  · simp [RepV, Tie.newBox, R.n]
theorem arrElem_inv {t : TypeId} {sz : Nat} (h : arrElem P t = some sz) : ∃ n e, P.underlying t = some (.array n e) ∧ growElem P e = some sz := by
  unfold arrElem at h
  split at h
  · rename_i n e eq
    split at h
    · simp at h
    · exact ⟨n, e, eq, h⟩
  · simp at h
theorem ok_allocA {t : TypeId} {sz : Nat} {zs : List V} (hop : o.op = .alloc t) (R : Rel G h w) (hz : zeroO P t = some zs) (hs : step base en h (.allocA t sz zs) = some (v, h')) : OpOk P o a G h' w v := by
  simp only [step] at hs
  split at hs
  · rename_i hc
    obtain ⟨hpos, hmod, _⟩ := hc
    simp only [Option.some.injEq, Prod.mk.injEq] at hs
    obtain ⟨rfl, rfl⟩ := hs
    obtain ⟨z, hr, hs⟩ := zeroO_run hz w
    have hrep := scsOf_rep (G := G) hs
    have hlen := hrep.length
    simp only [Array.length_toList] at hlen
    have hdiv : zs.length / sz * sz = zs.length := Nat.div_mul_cancel (Nat.dvd_of_mod_eq_zero hmod)
    refine OpOk.value (s := Instr.alloc t true (.tuple #[])) (r := .pointer (some ⟨w.heap.size, 0, none⟩)) (w' := w.alloc (.cells z.cells t (0, 0))) (by simp only [execOp, hop]) ?_ (Ext.newRow G ⟨0, sz, w.heap.size, zs.length / sz, (chunk sz zs).length⟩)
      (R.newRow t hpos (by rw [chunk_length]; exact Nat.le_refl _) (by rw [hdiv]; exact hlen) (chunk_blk hpos (scsOf_one hs).1 fun p c hc => by
        obtain ⟨r, h1, h2⟩ := hrep.get hc
        exact ⟨r, by rw [← Array.getElem?_toList]; exact h1, h2⟩)) ?_ (bel_alloc R _)
    · simp [Instr.alloc, hr, newVar, newRow]
    · simp [RepV, Tie.newRow, R.n]
  · simp at hs
theorem ok_boxA {t : TypeId} {sz : Nat} {x : Operand} {x' : Opd} (hop : o.op = .box t x) (hgl : GlobOk G gl) (he : RepEnv G en a.tmps) (R : Rel G h w) (h1 : opd gl x = some x') (hs : step base en h (.boxA t sz x') = some (v, h')) :
    OpOk P o a G h' w v := by
  simp only [step] at hs
  split at hs
  · rename_i hc
    obtain ⟨hpos, hmod, _, hone⟩ := hc
    simp only [Option.some.injEq, Prod.mk.injEq] at hs
    obtain ⟨rfl, rfl⟩ := hs
    have hx := opd_rep hgl he h1
    have hu : x'.get en ≠ .undef := by
      intro e
      rw [e] at hone
      simp [V.cells, zm] at hone
    have hrep := hx.cells hu
    have hlen := hrep.length
    simp only [Array.length_toList] at hlen
    have hdiv : (x'.get en).cells.length / sz * sz = (x'.get en).cells.length := Nat.div_mul_cancel (Nat.dvd_of_mod_eq_zero hmod)
    refine OpOk.value (s := Instr.box t (a.eval x)) (r := .pointer (some ⟨w.heap.size, 0, none⟩)) (w' := w.alloc (.cells (a.eval x).cells t (0, 0))) (by simp only [execOp, hop]) ?_ (Ext.newRow G ⟨0, sz, w.heap.size, (x'.get en).cells.length / sz, (chunk sz (x'.get en).cells).length⟩)
      (R.newRow t hpos (by rw [chunk_length]; exact Nat.le_refl _) (by rw [hdiv]; exact hlen) (chunk_blk hpos hone fun p c hc => by
        obtain ⟨r, h1, h2⟩ := hrep.get hc
        exact ⟨r, by rw [← Array.getElem?_toList]; exact h1, h2⟩)) ?_ (bel_alloc R _)
    · simp [Instr.box, newVar, newRow]
    · simp [RepV, Tie.newRow, R.n]
  · simp at hs
theorem ok_boxF {t : TypeId} {x : Operand} {x' : Opd} (hop : o.op = .box t x) (hgl : GlobOk G gl) (he : RepEnv G en a.tmps) (R : Rel G h w) (h1 : opd gl x = some x') (hs : step base en h (.boxF none x') = some (v, h')) :
    OpOk P o a G h' w v := by
  simp only [step] at hs
  split at hs
  · rename_i hg
    simp only [Option.all_none, Bool.and_true] at hg
    simp only [Option.some.injEq, Prod.mk.injEq] at hs
    obtain ⟨rfl, rfl⟩ := hs
    have hx := opd_rep hgl he h1
    have hu : x'.get en ≠ .undef := by
      intro e
      rw [e] at hg
      simp [V.cells, ground] at hg
    have hrep := hx.cells hu
    have X := Ext.newFz R (a.eval x).cells
    refine OpOk.value (s := Instr.box t (a.eval x)) (r := .pointer (some ⟨w.heap.size, 0, none⟩)) (w' := w.alloc (.cells (a.eval x).cells t (0, 0))) (by simp only [execOp, hop]) ?_ X
      (R.newFz (a.eval x).cells t (0, 0)) ?_ (bel_alloc R _)
    · simp [Instr.box, newVar, newRow]
    · simp only [RepV]
      refine ⟨w.heap.size, 0, rfl, hg, RepF.of_get fun j c hj => ?_⟩
      obtain ⟨r, h2, h3⟩ := hrep.get hj
      refine ⟨r, ?_, h3.ext X⟩
      simp only [Tie.newFz, if_true, Nat.zero_add]
      rw [← Array.getElem?_toList]
      exact h2
  · simp at hs
theorem fieldsPlaces_mapM : ∀ {fs : List Field} {pl : List (Nat × Nat)}, fieldsPlaces P fs = some pl → fs.mapM (fun f => (P.info? f.type).map fun i => (f.offset, i.size)) = some pl
  | [], pl, h => by simp [fieldsPlaces] at h; subst h; rfl
  | f :: fs, pl, h => by
    simp only [fieldsPlaces, sizeO, Option.bind_eq_some_iff, Option.map_eq_some_iff] at h
    obtain ⟨n, ⟨i, hi, rfl⟩, r, hr, rfl⟩ := h
    have := fieldsPlaces_mapM hr
    simp [List.mapM_cons, hi, this]
theorem buildParts_all (hgl : GlobOk G gl) (he : RepEnv G en a.tmps) {pl : List (Nat × Nat)} {place : Nat → Option (Nat × Nat)} (hpl : ∀ i p, pl[i]? = some p → place i = some p) : ∀ {ps : List (Nat × Operand)} {qs : List (Nat × Nat × Opd)},
    buildParts gl pl ps = some qs → All2 (fun p r => place r.1 = some (p.1, p.2.1) ∧ RepV G p.2.2 r.2) (getParts en qs) (ps.map fun p => (p.1, a.eval p.2))
  | [], qs, h => by simp [buildParts] at h; subst h; simp [getParts, All2]
  | (i, x) :: ps, qs, h => by
    simp only [buildParts, Option.bind_eq_some_iff, Option.map_eq_some_iff] at h
    obtain ⟨p, hp, y, hy, r, hr, rfl⟩ := h
    simp only [getParts, List.map_cons, All2]
    exact ⟨_, _, rfl, ⟨hpl _ _ hp, opd_rep hgl he hy⟩, buildParts_all hgl he hpl hr⟩
theorem slcParts_all (hgl : GlobOk G gl) (he : RepEnv G en a.tmps) : ∀ {ps : List (Nat × Operand)} {qs : List (Nat × Opd)},
    slcParts gl ps = some qs → All2 (fun p r => p.1 = r.1 ∧ RepV G p.2 r.2) (getParts2 en qs) (ps.map fun p => (p.1, a.eval p.2))
  | [], qs, h => by simp [slcParts] at h; subst h; simp [getParts2, All2]
  | (i, x) :: ps, qs, h => by
    simp only [slcParts, Option.bind_eq_some_iff, Option.map_eq_some_iff] at h
    obtain ⟨y, hy, r, hr, rfl⟩ := h
    simp only [getParts2, List.map_cons, All2]
    exact ⟨_, _, rfl, ⟨rfl, opd_rep hgl he hy⟩, slcParts_all hgl he hr⟩
theorem ok_build {t : TypeId} {ps : Array (Nat × Operand)} {zs cs : List V} {qs : List (Nat × Nat × Opd)} {d : TypeDesc} (hop : o.op = .build t ps) (hgl : GlobOk G gl) (he : RepEnv G en a.tmps) (R : Rel G h w) (hd : P.underlying t = some d) (hz : zeroO P t = some zs)
    (hq : (∃ fs pl, d = .struct fs ∧ fieldsPlaces P fs.toList = some pl ∧ buildParts gl pl ps.toList = some qs) ∨ (∃ n e s, d = .array n e ∧ sizeO P e = some s ∧ buildParts gl ((List.range n).map fun i => (i * s, s)) ps.toList = some qs))
    (hf : fillParts zs (getParts en qs) = some cs) : OpOk P o a G h w (.agg cs) := by
  simp only [zeroO, Option.bind_eq_some_iff] at hz
  obtain ⟨z, ⟨it, hit, hz⟩, hs⟩ := hz
  have key : ∃ cells, P.built t (ps.toList.map fun p => (p.1, a.eval p.2)) = some cells ∧ RepL G cs cells.toList := by
    rcases hq with ⟨fs, pl, rfl, hp, hb⟩ | ⟨n, e, s, rfl, hs', hb⟩
    · obtain ⟨cells, h1, h2⟩ := fillParts_run (G := G) (pl.toArray[·]?) (scsOf_rep hs) hf (buildParts_all hgl he (by simp) hb)
      exact ⟨cells, by simp only [Program.built, hit, hd, hz, fieldsPlaces_mapM hp]; exact h1, h2⟩
    · simp only [sizeO, Option.map_eq_some_iff] at hs'
      obtain ⟨ie, hie, rfl⟩ := hs'
      obtain ⟨cells, h1, h2⟩ := fillParts_run (G := G) (fun i => some (i * ie.size, ie.size)) (scsOf_rep hs) hf (buildParts_all hgl he (fun i p hp => by
        simp only [List.getElem?_map, Option.map_eq_some_iff] at hp
        obtain ⟨j, hj, rfl⟩ := hp
        rw [List.getElem?_range] at hj
        · injection hj with hj; rw [hj]
        · rcases Nat.lt_or_ge i n with hl | hl
          · exact hl
          · rw [List.getElem?_eq_none (by simpa using hl)] at hj
            simp at hj) hb)
      exact ⟨cells, by simp only [Program.built, hit, hd, hz, hie]; exact h1, h2⟩
  obtain ⟨cells, h1, h2⟩ := key
  refine OpOk.quiet (s := Instr.build t (ps.map fun (i, x) => (i, a.eval x))) (r := .agg cells) R (by simp only [execOp, hop]) (run_build w t _ cells ?_) ?_
  · rw [← h1]
    congr 1
    simp
  · simp only [RepV]
    exact ⟨_, rfl, h2⟩
end
end
section
open Go.RowKit (Below)
section
variable {P : Program} {gl : Nat → Option (List V)} {G : Tie} {en : Env} {h h' : Heap} {a : Act} {w : World} {o : Oper} {base : Nat} {v : V}
theorem ok_bslice {t e : TypeId} {n sz : Nat} {ps : Array (Nat × Operand)} {zs : List V} {qs : List (Nat × Opd)} (hop : o.op = .buildSlice t n ps) (hgl : GlobOk G gl) (he : RepEnv G en a.tmps) (R : Rel G h w)
    (ht : P.underlying t = some (.slice e)) (hg : growElem P e = some sz) (hz : zeroO P e = some zs) (hn : n * sz ≤ 2 ^ 24 ∧ zs.length = sz) (hq : slcParts gl ps.toList = some qs)
    {wr : Bool} (hs : step base en h (.bslice wr e sz zs n qs) = some (v, h')) : OpOk P o a G h' w v := by
  obtain ⟨i, z, hi, hz1, rfl, hpos, hby, hzs⟩ := growElem_inv hg
  simp only [step, Option.bind_eq_some_iff] at hs
  obtain ⟨rows, hf, hs⟩ := hs
  have hz' : scsOf z.cells.toList = some zs := by
    simp only [zeroO, hi, hz1, Option.bind_some] at hz
    exact hz
  obtain ⟨cells, h1, h2⟩ := fillRows_run (G := G) (n := n) (made_flat (n := n) hz' hzs) hf (slcParts_all hgl he hq)
  have hrl : rows.length * i.size = cells.size := by
    have := h2.1
    simpa using this.symm
  have hlen : rows.length = n := by
    have key : ∀ {ps : List (Nat × V)} {xs ys : List (List V)}, zv i.size xs ps = some ys → ys.length = xs.length := by
      intro ps
      induction ps with
      | nil => intro xs ys h; simp only [zv, Option.some.injEq] at h; rw [h]
      | cons p ps ih =>
        intro xs ys h
        obtain ⟨k, u⟩ := p
        unfold zv at h
        split at h
        · have := ih h; simpa using this
        · simp at h
    have := key hf
    simpa using this
  have hrun : (Instr.buildSlice t n (ps.map fun (i, x) => (i, a.eval x))).run P w = .ok (.slice (some ⟨w.heap.size, 0, none⟩) n n) (w.alloc (.cells cells e (0, 0))) := by
    have hps : (ps.map fun (i, x) => (i, a.eval x)).toList = ps.toList.map fun p => (p.1, a.eval p.2) := by simp
    have hnot : ¬ (2 ^ 24 < n * i.size) := by omega
    rw [← hps] at h1
    generalize (ps.map fun (i, x) => (i, a.eval x)) = parts at h1
    have hsize : (sizeOf e).run P w = .ok i.size w := by simp [sizeOf, typeInfo, hi]
    have hzv : (zeroValue e).run P w = .ok z w := by simp [zeroValue, typeInfo, hi, hz1]
    unfold madeCells at h1
    unfold Instr.buildSlice
    by_cases h0 : n * i.size = 0
    · have h1' : Instr.fill (fun j => some (j * i.size, i.size)) (Array.map (fun x => (#[] : Array Value)[x % (#[] : Array Value).size]!) (Array.range (n * i.size))) parts.toList = some cells := by
        have hm : ∀ f : Nat → Value, Array.map f (Array.range 0) = #[] := fun f => Array.eq_empty_of_size_eq_zero (by simp)
        rw [← h1, h0, hm, hm]
      simp only [Sem.run_bind, run_underlying ht w, Result.andThen_ok, hsize, gt_iff_lt, hnot, if_false, Sem.run_pure, if_pos h0, h1']
      rfl
    · simp only [Sem.run_bind, run_underlying ht w, Result.andThen_ok, hsize, gt_iff_lt, hnot, if_false, Sem.run_pure, if_neg h0, hzv, h1]
      rfl
  have hrows : ∀ r ∈ rows, r.length = i.size := fun r hr => by
    obtain ⟨k, hk⟩ := List.getElem?_of_mem hr
    exact (h2.2 k r hk).1
  have rowcase : (rows.all fun r => r.all zm) = true → some (V.hsl h.length 0 0 rows.length, h ++ [Obj.row e i.size 0 rows]) = some (v, h') → OpOk P o a G h' w v := by
    intro hone hs
    injection hs with hs
    simp only [Prod.mk.injEq] at hs
    obtain ⟨rfl, rfl⟩ := hs
    have hB : RepBlk G i.size cells rows := by
      have := h2.blk (rest := []) (fun r hr => (List.all_eq_true.1 hone) r hr)
      rwa [List.append_nil, Array.toArray_toList] at this
    refine OpOk.value (by simp only [execOp, hop]) hrun (Ext.newRow G ⟨0, i.size, w.heap.size, n, _⟩) (R.newRow e hpos (by omega) (by rw [← hrl, hlen]) hB) ?_ (bel_alloc R _)
    simp only [RepV]
    refine ⟨by simp [Tie.newRow, R.n], _, _, by rw [hlen], fun L hL => ?_⟩
    simp only [Tie.newRow, R.n, if_true, Option.some.injEq] at hL
    subst hL
    exact ⟨Nat.le_refl _, fun _ => ⟨by omega, ⟨by simp, by simp; omega⟩, fun _ => by simp⟩⟩
  split at hs
  · split at hs
    · rename_i hone
      exact rowcase hone hs
    · simp at hs
  split at hs
  · rename_i hgr
    injection hs with hs
    simp only [Prod.mk.injEq] at hs
    obtain ⟨rfl, rfl⟩ := hs
    obtain ⟨hR, hV⟩ := R.newSlc (ex := .lit) (rest := []) (cap := n) h2 hgr (by omega) (by omega) e (0, 0)
    rw [List.append_nil, Array.toArray_toList] at hR hV
    rw [hlen] at hV
    exact OpOk.value (by simp only [execOp, hop]) hrun (Ext.newFz R _) hR hV (bel_alloc R _)
  · split at hs
    · rename_i hone
      exact rowcase hone hs
    · simp at hs
theorem ok_makeSlice {t e : TypeId} {sz : Nat} {l c : Operand} {l' c' : Opd} {zs : List V} (hop : o.op = .makeSlice t l c) (hgl : GlobOk G gl) (he : RepEnv G en a.tmps) (R : Rel G h w)
    (ht : P.underlying t = some (.slice e)) (hg : growElem P e = some sz) (hz : zeroO P e = some zs) (hl : opd gl l = some l') (hc : opd gl c = some c')
    (hs : step base en h (.makeSlice e sz zs l' c') = some (v, h')) : OpOk P o a G h' w v := by
  obtain ⟨i, z, hi, hz1, rfl, hpos, hby, hzs⟩ := growElem_inv hg
  have hz' : scsOf z.cells.toList = some zs := by
    simp only [zeroO, hi, hz1, Option.bind_some] at hz
    exact hz
  simp only [step] at hs
  split at hs
  · rename_i n m hn hm
    split at hs
    · rename_i hcond
      injection hs with hs
      simp only [Prod.mk.injEq] at hs
      obtain ⟨rfl, rfl⟩ := hs
      obtain ⟨kl, il, e1, hl0, rfl⟩ := asNat_run (opd_rep hgl he hl) hn
      obtain ⟨kc, ic, e2, hc0, rfl⟩ := asNat_run (opd_rep hgl he hc) hm
      have hlim : ic.toNat ≤ 2 ^ 36 := hcond.2
      have hb : (i.bytes : Int) * ic ≤ 281474976710656 := by
        have h1 : (i.bytes : Int) * ic ≤ 1024 * ic := Int.mul_le_mul_of_nonneg_right (by omega) hc0
        omega
      have hrun := run_make (P := P) w t e i z ht hi hz1 kl kc il ic hl0 (by omega) hb (by omega)
      rw [← e1, ← e2] at hrun
      have hfl := made_flat (G := G) (n := ic.toNat) hz' hzs
      have hone := (scsOf_one hz').1
      have hB : RepBlk G i.size (madeCells z.cells (ic.toNat * i.size)) (List.replicate il.toNat zs) := by
        intro k cs hk
        rw [List.getElem?_replicate] at hk
        split at hk
        · rename_i hlt
          injection hk with hk
          subst hk
          obtain ⟨h1, h2⟩ := hfl.2 k zs (by rw [List.getElem?_replicate, if_pos (by omega)])
          exact ⟨h1, hone, fun j c hj => by obtain ⟨u, h3, h4⟩ := h2 j c hj; rw [Array.getElem?_toList] at h3; exact ⟨u, h3, h4⟩⟩
        · simp at hk
      refine OpOk.value (by simp only [execOp, hop]) hrun (Ext.newRow G ⟨0, i.size, w.heap.size, ic.toNat, _⟩) (R.newRow e hpos (by simpa using hcond.1) (size_madeCells _ _) hB) ?_ (bel_alloc R _)
      simp only [RepV]
      refine ⟨by simp [Tie.newRow, R.n], _, _, rfl, fun L hL => ?_⟩
      simp only [Tie.newRow, R.n, if_true, Option.some.injEq] at hL
      subst hL
      exact ⟨Nat.le_refl _, fun _ => ⟨hcond.1, ⟨by simp, by simpa using hcond.1⟩, fun _ => by simp⟩⟩
    · simp at hs
  · simp at hs
theorem ok_load {t : TypeId} {n : Option Nat} {x : Operand} {x' : Opd} (hop : o.op = .load t x) (hgl : GlobOk G gl) (he : RepEnv G en a.tmps) (R : Rel G h w) (hn : shapeO P t = some n) (hx : opd gl x = some x')
    (hv : zl h n (x'.get en) = some v) : OpOk P o a G h w v := by
  obtain ⟨rx, h1, h2⟩ := load_run R hn (opd_rep hgl he hx) hv
  exact OpOk.quiet R (by simp only [execOp, hop]) h1 h2
theorem ok_store {t : TypeId} {n : Nat} {x y : Operand} {x' y' : Opd} (hop : o.op = .store t x y) (hgl : GlobOk G gl) (he : RepEnv G en a.tmps) (R : Rel G h w) (hn : sizeO P t = some n) (hx : opd gl x = some x') (hy : opd gl y = some y')
    (hv : storeV base h n (x'.get en) (y'.get en) = some h') : OpOk P o a G h' w .undef := by
  obtain ⟨w', h1, h2, hb⟩ := store_run R hn (opd_rep hgl he hx) (opd_rep hgl he hy) hv
  refine ⟨undef, w', G, .inr ⟨?_, rfl⟩, Ext.refl G, h2, by simp [RepV], hb⟩
  simp only [execOp, hop, Sem.run_bind, h1, Result.andThen_ok]
  rfl
theorem foldl_push : ∀ (ns : List Int) (s : ByteArray), ns.foldl (fun r n => r.push (UInt8.ofNat n.toNat)) s = ⟨s.data ++ (ns.map fun n => UInt8.ofNat n.toNat).toArray⟩
  | [], s => by simp
  | n :: ns, s => by
    rw [List.foldl_cons, foldl_push ns]
    simp [ByteArray.push]
theorem ok_strOf {src dst e : TypeId} {x : Operand} {x' : Opd} {rows : List (List V)} {l : List UInt8} (hop : o.op = .convert src dst x) (hgl : GlobOk G gl) (he : RepEnv G en a.tmps) (R : Rel G h w) (hsrc : P.underlying src = some (.slice e)) (hdst : P.underlying dst = some .string)
    (hel : P.underlying e = some (.int .u8)) (hx : opd gl x = some x') (h1 : elems 1 h (x'.get en) = some rows) (h2 : bytesIn rows = some l) : OpOk P o a G h w (.str ⟨l.toArray⟩) := by
  obtain ⟨aa, cap, rs, hr, _, hfl, hc⟩ := elems_run R (opd_rep hgl he hx) h1
  obtain ⟨ns, rfl, rfl⟩ := bytesIn_map h2
  have hrs : rs = ns.map (Value.int .u8) := by
    apply List.ext_getElem?
    intro k
    by_cases hk : k < ns.length
    · obtain ⟨_, h4⟩ := hfl.2 k [V.sc (.int .u8 ns[k])] (by simp [hk])
      obtain ⟨u, h5, h6⟩ := h4 0 _ rfl
      have := h6.sc_inv
      subst this
      simp at h5
      rw [h5]
      simp [hk]
    · have := hfl.1
      simp at this
      rw [List.getElem?_eq_none (by omega), List.getElem?_eq_none (by simp; omega)]
  subst hrs
  refine OpOk.quiet (s := convert src dst (a.eval x)) (r := .string ⟨(ns.map fun n => UInt8.ofNat n.toNat).toArray⟩) R (by simp only [execOp, hop]) ?_ (RepV.str _ _)
  rw [hr, run_convert_bytes_string w src dst e aa _ cap hsrc hel hdst]
  by_cases hne : ns = []
  · subst hne
    cases aa with
    | none => rfl
    | some b =>
      have := run_bytesToString (P := P) w b 0 cap [] (by simp [loadCells, loadCellsFrom])
      exact this
  · obtain ⟨b, oo, rfl, hcell⟩ := hc (by simpa using hne)
    have hload := run_loadCells_list (P := P) w ⟨b, oo, none⟩ (ns.map (Value.int .u8)) (fun j u hj => by rw [add_none]; exact hcell j u hj)
    have := run_bytesToString (P := P) w ⟨b, oo, none⟩ ns.length cap ns (by simpa using hload)
    rw [foldl_push] at this
    simp only [List.length_map]
    rw [this]
    simp
theorem ok_bytesOf {src dst e : TypeId} {x : Operand} {x' : Opd} {s : ByteArray} (hop : o.op = .convert src dst x) (hgl : GlobOk G gl) (he : RepEnv G en a.tmps) (R : Rel G h w) (hsrc : P.underlying src = some .string) (hdst : P.underlying dst = some (.slice e))
    (hel : P.underlying e = some (.int .u8)) (hx : opd gl x = some x') (h1 : x'.get en = .sc (.string s)) : OpOk P o a G h w (.slc .any 1 (bytesOut s)) := by
  have hxv := opd_rep hgl he hx
  rw [h1] at hxv
  have hxv := hxv.sc_inv
  have hrun := run_bytes_of_string (P := P) w src dst e s hsrc hdst hel
  have hlen : (bytesOut s).length = s.size := by
    simp [bytesOut]
  have hg : ((bytesOut s).all fun r => r.all ground) = true := by
    rw [List.all_eq_true]
    intro r hr
    simp only [bytesOut, List.mem_map] at hr
    obtain ⟨c, _, rfl⟩ := hr
    rfl
  obtain ⟨hR, hV⟩ := R.drew.newSlc (ex := .any) (rest := List.replicate (grownCap w s.size 0 e - s.size) (.int .u8 0)) (cap := grownCap w s.size 0 e) (bytesOut_flat G s) hg (by rw [hlen]; exact grownCap_ge _ _ _ _) (by simp [Cp.isFull]) e
    ((bytesRow s (grownCap w s.size 0 e)).size, (bytesRow s (grownCap w s.size 0 e)).size + 1)
  have hrow : (s.data.toList.map (fun (c : UInt8) => Value.int .u8 (c.toNat : Int)) ++ List.replicate (grownCap w s.size 0 e - s.size) (Value.int .u8 0)).toArray = bytesRow s (grownCap w s.size 0 e) := by
    unfold bytesRow
    apply Array.ext'
    simp
  rw [hrow] at hR hV
  rw [hlen] at hV
  exact OpOk.value (by simp only [execOp, hop, hxv]) hrun (Ext.newFz R.drew _) hR hV (bel_drew_alloc R _)
theorem sliceStr_run {t : TypeId} {s : ByteArray} {l e : Nat} {low high : Option Value} (ht : P.underlying t = some .string) (hl : OB 0 low l) (hh : OB s.size high e) (h1 : l ≤ e) (h2 : e ≤ s.size) :
    (Instr.sliceAt t (.string s) low high none).run P w = .ok (.string (s.extract l e)) w := by
  simp [Instr.sliceAt, Instr.slice, run_underlying ht w, bounds_run (P := P) (w := w) (b := false) hl hh (.inl ⟨rfl, rfl⟩ : OB s.size none s.size) (by simp) h1 h2 (Nat.le_refl _)]
theorem boundO_OB (hgl : GlobOk G gl) (he : RepEnv G en a.tmps) {d n : Nat} {x : Option Operand} {y : Option Opd} (h : opdO gl x = some y) (hb : zf en d y = some n) : OB d (x.map a.eval) n := by
  cases x with
  | none =>
    simp only [opdO, Option.some.injEq] at h
    subst h
    simp only [zf, Option.some.injEq] at hb
    exact .inl ⟨rfl, hb.symm⟩
  | some x =>
    simp only [opdO, Option.map_eq_some_iff] at h
    obtain ⟨y, hy, rfl⟩ := h
    simp only [zf] at hb
    obtain ⟨k, i, h1, h2, h3⟩ := asNat_run (opd_rep hgl he hy) hb
    exact .inr ⟨k, i, by simp [h1], h2, h3⟩
end
end
section
open Go.RowKit (Below)
section
variable {P : Program} {gl : Nat → Option (List V)} {G : Tie} {en : Env} {h h' : Heap} {a : Act} {w : World} {o : Oper} {base : Nat} {v : V}
theorem some_pair {α β : Type} {x : Option α} {y : β} {p : α × β} (h : (x.map fun v => (v, y)) = some p) : x = some p.1 ∧ p.2 = y := by
  simp only [Option.map_eq_some_iff] at h
  obtain ⟨a, rfl, rfl⟩ := h
  exact ⟨rfl, rfl⟩
theorem mark_run (R : Rel G h w) (p : Addr) (hown : ∀ b, G.real h b ≠ some p.block) (hb0 : G.b0 ≤ p.block) (hkp : G.kp p.block = false) : ∃ w', (markStringish p).run P w = .ok () w' ∧ Rel G h w' ∧ Bel G w w' := by
  unfold markStringish
  cases hsh : w.shape? p.block with
  | none => exact ⟨w, by simp [hsh], R, Bel.refl _ _⟩
  | some q =>
    obtain ⟨e, n⟩ := q
    refine ⟨w.freeze ⟨p.block, n, none⟩ 1, by simp [hsh], ?_⟩
    have hother : ∀ c, c ≠ p.block → (w.freeze ⟨p.block, n, none⟩ 1).heap[c]? = w.heap[c]? := by
      intro c hc
      unfold World.freeze
      rw [if_neg (by omega)]
      simp [Array.getElem?_modify, Ne.symm hc]
    have hcell : ∀ c oo, (w.freeze ⟨p.block, n, none⟩ 1).cell? ⟨c, oo, none⟩ = w.cell? ⟨c, oo, none⟩ := by
      intro c oo
      by_cases hc : c = p.block
      · subst hc
        unfold World.cell? World.freeze
        rw [if_neg (by omega)]
        simp only [Array.getElem?_modify, if_true]
        cases hb : w.heap[p.block]? with
        | none => rfl
        | some ob =>
          cases ob <;> rfl
      · unfold World.cell?
        rw [hother c hc]
    have hreal : ∀ b k, G.real h b = some k → k ≠ p.block := fun b k hk e => hown b (e ▸ hk)
    have hsize : (w.freeze ⟨p.block, n, none⟩ 1).heap.size = w.heap.size := by
      unfold World.freeze
      rw [if_neg (by omega)]
      simp
    refine ⟨⟨R.n, fun b oo v hv => by rw [hcell]; exact R.fz b oo v hv, fun b t cs e => ?_, fun b t sz e rows eq => ?_, fun b es e => ?_, R.low, R.inj, ?_, fun k hk => ?_⟩, ?_, fun k hk => hother k (fun e => by rw [e, hkp] at hk; exact absurd hk (by simp))⟩
    · obtain ⟨h1, rs, h2, h3⟩ := R.box b t cs e
      refine ⟨h1, rs, ?_, h3⟩
      rw [hother _ (hreal b _ (by unfold Tie.real; rw [e]))]
      exact h2
    · obtain ⟨h0, L, rs, h1, h2, h3, h4, h5, h6⟩ := R.row b t sz e rows eq
      refine ⟨h0, L, rs, h1, h2, h3, h4, ?_, h6⟩
      rw [hother _ (hreal b _ (by unfold Tie.real; rw [eq]; simp [h1]))]
      exact h5
    · obtain ⟨l, clock, h1, h2⟩ := R.mp b es e
      refine ⟨l, clock, ?_, h2⟩
      rw [hother _ (hreal b _ (by unfold Tie.real; rw [e]))]
      exact h1
    · rw [hsize]; exact R.hb0
    · rw [hsize]; exact R.kp k hk
    · refine ⟨?_, ?_, ?_, by rw [hsize]; exact Nat.le_refl _, fun k hk => hother k (by omega)⟩ <;> (unfold World.freeze; rw [if_neg (by omega)])
theorem ifTab_inv {t : TypeId} {k : LK} (h : (ifTab P).lookup t = some k) : k = .i ∧ ∃ i j, P.info? t = some i ∧ i.comparable = true ∧ P.underlying t = some (.int j) := by
  have hm : (t, k) ∈ ifTab P := by
    generalize ifTab P = l at h
    induction l with
    | nil => simp at h
    | cons x l ih =>
      obtain ⟨a, kb⟩ := x
      rw [List.lookup_cons] at h
      split at h
      · rename_i e
        injection h with h
        have := eq_of_beq e
        subst this; subst h
        simp
      · exact List.mem_cons_of_mem _ (ih h)
  simp only [ifTab, List.mem_filterMap] at hm
  obtain ⟨u, _, hm⟩ := hm
  split at hm
  · rename_i i hi
    split at hm
    · rename_i hcmp
      split at hm
      · split at hm
        · rename_i j hj
          simp only [Option.some.injEq, Prod.mk.injEq] at hm
          obtain ⟨rfl, rfl⟩ := hm
          exact ⟨rfl, i, j, hi, hcmp, hj⟩
        · simp at hm
      · simp at hm
    · simp at hm
  · simp at hm
theorem sameIfc_run {op : BinOp} {t : TypeId} {ms : Array (String × TypeId)} {neg : Bool} {x y : V} {b : Bool} {rx ry : Value} (hop : op = if neg then .neq else .eql) (ht : P.underlying t = some (.interface ms))
    (hx : RepV G x rx) (hy : RepV G y ry) (hv : sameIfc (ifTab P) x y = some b) (ox oy : Operand) : (do eqGuard op t ox oy rx ry; binOp op t rx ry : Sem Value).run P w = .ok (.bool (if neg then !b else b)) w := by
  have key : ∀ (c : Bool), (eqGuard op t ox oy rx ry).run P w = .ok () w → (∀ d, (Op.equalIn (d + 2) t rx ry).run P w = .ok c w) → (∀ z : Bool, binOp (if z then .neq else .eql) t rx ry = (do let r ← Op.equal t rx ry; pure (.bool (if z then !r else r)) : Sem Value)) → b = c → (do eqGuard op t ox oy rx ry; binOp op t rx ry : Sem Value).run P w = .ok (.bool (if neg then !b else b)) w := by
    rintro c h1 h3 h5 rfl
    have h4 : (Op.equal t rx ry).run P w = .ok b w := by
      simp only [Op.equal, Op.maxDepth]
      exact h3 9998
    simp only [Sem.run_bind, h1, Result.andThen_ok]
    rw [hop, h5 neg]
    simp only [Sem.run_bind, h4, Result.andThen_ok, Sem.run_pure]
  unfold sameIfc at hv
  split at hv
  · rename_i u a
    injection hv with hv
    have := hx.sc_inv
    subst this
    simp only [RepV] at hy
    obtain ⟨rv, rfl, _⟩ := hy
    refine key false ?_ (fun d => by simp [Op.equalIn, run_underlying ht]) (fun z => by cases z <;> simp [binOp]) hv.symm
    cases neg <;> simp only [Bool.false_eq_true, if_false, if_true] at hop <;> subst hop <;> simp [eqGuard]
  · rename_i u a
    injection hv with hv
    have := hy.sc_inv
    subst this
    simp only [RepV] at hx
    obtain ⟨rv, rfl, _⟩ := hx
    refine key false ?_ (fun d => by simp [Op.equalIn, run_underlying ht]) (fun z => by cases z <;> simp [binOp]) hv.symm
    cases neg <;> simp only [Bool.false_eq_true, if_false, if_true] at hop <;> subst hop <;> simp [eqGuard]
  · rename_i u1 a1 u2 a2
    simp only [RepV] at hx hy
    obtain ⟨r1, rfl, h1⟩ := hx
    obtain ⟨r2, rfl, h2⟩ := hy
    have hg : (eqGuard op t ox oy (.iface u1 r1) (.iface u2 r2)).run P w = .ok () w := by
      cases neg <;> simp only [Bool.false_eq_true, if_false, if_true] at hop <;> subst hop <;> simp [eqGuard]
    have hb : ∀ z : Bool, binOp (if z then .neq else .eql) t (.iface u1 r1) (.iface u2 r2) = (do let r ← Op.equal t (.iface u1 r1) (.iface u2 r2); pure (.bool (if z then !r else r)) : Sem Value) := fun z => by cases z <;> simp [binOp]
    split at hv
    · rename_i hu
      subst hu
      simp only [Option.bind_eq_some_iff] at hv
      obtain ⟨k, hk, hv⟩ := hv
      obtain ⟨rfl, i, j, hi, hcmp, hj⟩ := ifTab_inv hk
      unfold eqCell at hv
      split at hv
      · rename_i k1 n1 k2 n2 _
        split at hv
        · rename_i hkk
          subst hkk
          injection hv with hv
          have q1 := h1.sc_inv
          have q2 := h2.sc_inv
          subst q1; subst q2
          exact key (n1 == n2) hg (fun d => by simp [Op.equalIn, run_underlying ht, run_underlying hj, typeInfo, hi, hcmp]) hb hv.symm
        · simp at hv
      · rename_i e; simp at e
      · rename_i e; simp at e
      · simp at hv
    · rename_i hu
      injection hv with hv
      exact key false hg (fun d => by rw [Op.equalIn]; simp only [Sem.run_bind, run_underlying ht, Result.andThen_ok, ne_eq, hu, not_false_eq_true, if_true, Sem.run_pure]) hb hv.symm
  · simp at hv
theorem nk_iface {d : TypeDesc} (h : nkOf d = some .iface) : ∃ ms, d = .interface ms := by
  unfold nkOf at h
  split at h
  · injection h with h; exact absurd h (by simp)
  · injection h with h; exact absurd h (by simp)
  · exact ⟨_, rfl⟩
  · injection h with h; exact absurd h (by simp)
  · injection h with h; exact absurd h (by simp)
  · simp at h
theorem ok_bin {op : BinOp} {t ty : TypeId} {x y : Operand} {ao : AOp} (hop : o.op = .binOp op t x y ty) (hgl : GlobOk G gl) (he : RepEnv G en a.tmps) (R : Rel G h w) (hc : compBin P gl op t x y = some ao)
    (hs : step base en h ao = some (v, h')) : OpOk P o a G h' w v := by
  simp only [compBin, Option.bind_eq_some_iff] at hc
  obtain ⟨d, hd, x', hx, y', hy, hc⟩ := hc
  have hrx := opd_rep hgl he hx
  have hry := opd_rep hgl he hy
  have hbin : ao = .bin op x' y' → OpOk P o a G h' w v := by
    rintro rfl
    simp only [step] at hs
    obtain ⟨h1, h2⟩ := some_pair hs
    simp only at h1 h2
    subst h2
    obtain ⟨r, h3, h4⟩ := bin_run (P := P) (w := w) (t := t) (ox := x) (oy := y) hrx hry h1
    exact OpOk.quiet R (by simp only [execOp, hop]) h3 h4
  have hbool : ∀ neg, op = (if neg then .neq else .eql) → P.underlying t = some .bool → ao = .eqBool neg x' y' → OpOk P o a G h' w v := by
    rintro neg hopn ht rfl
    simp only [step] at hs
    split at hs
    · rename_i p q ep eq
      injection hs with hs
      simp only [Prod.mk.injEq] at hs
      obtain ⟨rfl, rfl⟩ := hs
      rw [ep] at hrx
      rw [eq] at hry
      have h3 := eqBool_run (P := P) (w := w) (neg := neg) (p := p) (q := q) (ox := x) (oy := y) ht
      rw [← hrx.sc_inv, ← hry.sc_inv, ← hopn] at h3
      exact OpOk.quiet R (by simp only [execOp, hop]) h3 (RepV.bool _ _)
    · simp at hs
  have hnil : ∀ neg k, op = (if neg then .neq else .eql) → nkOf d = some k → (isNilK k y = true ∧ ao = .isNil neg k x') ∨ (isNilK k x = true ∧ ao = .isNil neg k y') → OpOk P o a G h' w v := by
    intro neg k hopn hk hor
    have hnilv : ∀ z : Operand, isNilK k z = true → z = .const k.nilV := by
      intro z hz
      unfold isNilK at hz
      split at hz <;> first | rfl | simp at hz
    have hstep : ∀ z', ao = .isNil neg k z' → ∃ b, isNil k (z'.get en) = some b ∧ v = .bool (if neg then !b else b) ∧ h' = h := by
      rintro z' rfl
      simp only [step, Option.map_eq_some_iff, Prod.mk.injEq] at hs
      obtain ⟨b, h1, h2, h3⟩ := hs
      exact ⟨b, h1, h2.symm, h3.symm⟩
    rcases hor with ⟨hz, hao⟩ | ⟨hz, hao⟩
    · obtain ⟨b, h1, rfl, rfl⟩ := hstep _ hao
      have e := hnilv _ hz
      have h3 := (isNil_run (P := P) (w := w) (neg := neg) hd hk hrx h1 x y (.inr ⟨_, e⟩)).1
      have ey : a.eval y = k.nilV := by rw [e]; rfl
      rw [← hopn, ← ey] at h3
      exact OpOk.quiet R (by simp only [execOp, hop]) h3 (RepV.bool _ _)
    · obtain ⟨b, h1, rfl, rfl⟩ := hstep _ hao
      have e := hnilv _ hz
      have h3 := (isNil_run (P := P) (w := w) (neg := neg) hd hk hry h1 x y (.inl ⟨_, e⟩)).2
      have ex : a.eval x = k.nilV := by rw [e]; rfl
      rw [← hopn, ← ex] at h3
      exact OpOk.quiet R (by simp only [execOp, hop]) h3 (RepV.bool _ _)
  have hifc : ∀ neg, op = (if neg then .neq else .eql) → nkOf d = some .iface → ao = .eqIfc neg (ifTab P) x' y' → OpOk P o a G h' w v := by
    rintro neg hopn hk rfl
    obtain ⟨ms, rfl⟩ := nk_iface hk
    simp only [step, Option.map_eq_some_iff, Prod.mk.injEq] at hs
    obtain ⟨b, h1, rfl, rfl⟩ := hs
    have h3 := sameIfc_run (P := P) (w := w) hopn hd hrx hry h1 x y
    exact OpOk.quiet R (by simp only [execOp, hop]) h3 (RepV.bool _ _)
  split at hc
  · injection hc with hc; exact hbin hc.symm
  · injection hc with hc; exact hbin hc.symm
  · split at hc
    · injection hc with hc; exact hbool false rfl hd hc.symm
    · injection hc with hc; exact hbool true rfl hd hc.symm
    · simp at hc
  · rename_i te
    split at hc
    · split at hc
      · split at hc
        · rename_i hz; injection hc with hc; exact hnil false .ptr rfl rfl (.inl ⟨hz, hc.symm⟩)
        · split at hc
          · rename_i hz; injection hc with hc; exact hnil false .ptr rfl rfl (.inr ⟨hz, hc.symm⟩)
          · simp at hc
      · split at hc
        · rename_i hz; injection hc with hc; exact hnil true .ptr rfl rfl (.inl ⟨hz, hc.symm⟩)
        · split at hc
          · rename_i hz; injection hc with hc; exact hnil true .ptr rfl rfl (.inr ⟨hz, hc.symm⟩)
          · simp at hc
      · simp at hc
    · simp only [Option.bind_eq_some_iff] at hc
      obtain ⟨s, hz, hc⟩ := hc
      split at hc
      · simp at hc
      · rename_i h0
        have fin : ∀ neg, op = (if neg then .neq else .eql) → ao = .eqPtr neg x' y' → OpOk P o a G h' w v := by
          rintro neg hopn rfl
          simp only [step, Option.map_eq_some_iff, Prod.mk.injEq] at hs
          obtain ⟨b, h1, rfl, rfl⟩ := hs
          have h3 := samePtr_run (P := P) R hopn hd hz h0 hrx hry h1 x y
          exact OpOk.quiet R (by simp only [execOp, hop]) h3 (RepV.bool _ _)
        split at hc
        · injection hc with hc; exact fin false rfl hc.symm
        · injection hc with hc; exact fin true rfl hc.symm
        · simp at hc
  · simp only [Option.bind_eq_some_iff] at hc
    obtain ⟨k, hk, hc⟩ := hc
    split at hc
    · split at hc
      · rename_i hz; injection hc with hc; exact hnil false k rfl hk (.inl ⟨hz, hc.symm⟩)
      · split at hc
        · rename_i hz; injection hc with hc; exact hnil false k rfl hk (.inr ⟨hz, hc.symm⟩)
        · split at hc
          · rename_i hki; injection hc with hc; exact hifc false rfl (hki ▸ hk) hc.symm
          · simp at hc
    · split at hc
      · rename_i hz; injection hc with hc; exact hnil true k rfl hk (.inl ⟨hz, hc.symm⟩)
      · split at hc
        · rename_i hz; injection hc with hc; exact hnil true k rfl hk (.inr ⟨hz, hc.symm⟩)
        · split at hc
          · rename_i hki; injection hc with hc; exact hifc true rfl (hki ▸ hk) hc.symm
          · simp at hc
    · simp at hc
theorem ok_conv {src dst : TypeId} {x : Operand} {ao : AOp} (hop : o.op = .convert src dst x) (hgl : GlobOk G gl) (he : RepEnv G en a.tmps) (R : Rel G h w) (hc : compConv P gl src dst x = some ao)
    (hs : step base en h ao = some (v, h')) : OpOk P o a G h' w v := by
  simp only [compConv, Option.bind_eq_some_iff] at hc
  obtain ⟨s, hsrc, d, hdst, x', hx, hc⟩ := hc
  have hrx := opd_rep hgl he hx
  split at hc
  · rename_i k0 k
    injection hc with hc
    subst hc
    simp only [step] at hs
    split at hs
    · rename_i j n e
      injection hs with hs
      simp only [Prod.mk.injEq] at hs
      obtain ⟨rfl, rfl⟩ := hs
      rw [e] at hrx
      refine OpOk.quiet (s := convert src dst (a.eval x)) R (by simp only [execOp, hop]) ?_ (RepV.int _ _ _)
      rw [hrx.sc_inv]
      simp [convert, run_underlying hsrc, run_underlying hdst, Conv.intToInt]
    · simp at hs
  · injection hc with hc
    subst hc
    simp only [step] at hs
    split at hs
    · rename_i s e
      injection hs with hs
      simp only [Prod.mk.injEq] at hs
      obtain ⟨rfl, rfl⟩ := hs
      rw [e] at hrx
      refine OpOk.quiet (s := convert src dst (a.eval x)) R (by simp only [execOp, hop]) ?_ (RepV.str _ _)
      rw [hrx.sc_inv]
      simp [convert, run_underlying hsrc, run_underlying hdst]
    · simp at hs
  · split at hc
    · rename_i e he'
      injection hc with hc
      subst hc
      simp only [step, Option.bind_eq_some_iff, Option.map_eq_some_iff, Prod.mk.injEq] at hs
      obtain ⟨rows, h1, l, h2, rfl, rfl⟩ := hs
      exact ok_strOf hop hgl he R hsrc hdst he' hx h1 h2
    · simp at hc
  · split at hc
    · rename_i e he'
      injection hc with hc
      subst hc
      simp only [step] at hs
      split at hs
      · rename_i s es
        split at hs
        · injection hs with hs
          simp only [Prod.mk.injEq] at hs
          obtain ⟨rfl, rfl⟩ := hs
          exact ok_bytesOf hop hgl he R hsrc hdst he' hx es
        · simp at hs
      · simp at hs
    · simp at hc
  · rename_i e0 e
    split at hc
    · rename_i esd
      subst esd
      split at hc
      · rename_i he'
        injection hc with hc
        subst hc
        simp only [step] at hs
        split at hs
        · rename_i r rs es
          injection hs with hs
          simp only [Prod.mk.injEq] at hs
          obtain ⟨rfl, rfl⟩ := hs
          rw [es] at hrx
          have hV := hrx
          simp only [RepV] at hrx
          obtain ⟨aa, cap, hr, hr1, hr2, hr3, b, oo, ha, hb0, hR⟩ := hrx
          rw [ha (by simp)] at hr
          have hee : e0 = e := by
            rw [hsrc] at hdst
            injection hdst with hdst
            injection hdst
          subst hee
          have hf : ∃ u, G.fz b oo = some u := by
            simp only [RepRows] at hR
            obtain ⟨h1, h2, _⟩ := hR
            cases r with
            | nil => simp at h1
            | cons c r =>
              simp only [RepF] at h2
              obtain ⟨⟨u, hu, _⟩, _⟩ := h2
              exact ⟨u, hu⟩
          obtain ⟨w', hm, hR', hbl⟩ := mark_run (P := P) R ⟨b, oo, none⟩ (fun k hk => by
            obtain ⟨u, hu⟩ := hf
            rw [(R.low k _ hk).2 oo] at hu
            simp at hu) (hb0 trivial (by simp)) (by
            cases hkc : G.kp b with
            | false => rfl
            | true =>
              obtain ⟨u, hu⟩ := hf
              rw [(R.kp b hkc).2.1 oo] at hu
              simp at hu)
          refine OpOk.value (s := convert src src (a.eval x)) (r := a.eval x) (w' := w') (by simp only [execOp, hop]) ?_ (Ext.refl G) hR' hV hbl
          rw [hr]
          simp [convert, run_underlying hsrc, run_underlying he', hm]
        · simp at hs
      · simp at hc
    · simp at hc
  · simp only [Option.bind_eq_some_iff] at hc
    obtain ⟨z, hz, hc⟩ := hc
    split at hc
    · simp at hc
    · rename_i h0
      injection hc with hc
      subst hc
      simp only [step] at hs
      obtain ⟨h1, h2⟩ := some_pair hs
      simp only at h1 h2
      subst h2
      obtain ⟨h3, h4⟩ := uncast_run (P := P) R hsrc hdst hz h0 hrx h1
      exact OpOk.quiet R (by simp only [execOp, hop]) h3 h4
  · simp only [Option.bind_eq_some_iff] at hc
    obtain ⟨z, hz, hc⟩ := hc
    split at hc
    · rename_i hl
      injection hc with hc
      subst hc
      simp only [step] at hs
      obtain ⟨h1, h2⟩ := some_pair hs
      simp only at h1 h2
      subst h2
      obtain ⟨h3, h4⟩ := cast_run (P := P) R hsrc hdst hz hl hrx h1
      exact OpOk.quiet R (by simp only [execOp, hop]) h3 h4
    · simp at hc
  · simp at hc
end
end
section
open Go.RowKit (Below)
section
variable {P : Program} {gl : Nat → Option (List V)} {G : Tie} {en : Env} {h h' : Heap} {a : Act} {w : World} {o : Oper} {base : Nat} {v : V}
theorem keyIs_inv {kt : TypeId} {kd : LK} {k : V} {r key : Value} (hk : keyKind P kt = some kd) (hr : RepV G k r) (hi : keyIs kd k = some key) : ∃ d, P.underlying kt = some d ∧ MapKept.IsKey d key ∧ r = key := by
  unfold keyKind at hk
  split at hk
  · rename_i hd
    injection hk with hk
    subst hk
    unfold keyIs at hi
    split at hi
    all_goals try (exfalso; simp_all; done)
    rename_i a e1 e2
    injection hi with hi
    exact ⟨_, hd, by rw [← hi]; simp [MapKept.IsKey], by rw [hr.sc_inv, hi]⟩
  · rename_i hd
    injection hk with hk
    subst hk
    unfold keyIs at hi
    split at hi
    all_goals try (exfalso; simp_all; done)
    rename_i a e1 e2
    injection hi with hi
    exact ⟨_, hd, by rw [← hi]; simp [MapKept.IsKey], by rw [hr.sc_inv, hi]⟩
  · rename_i hd
    injection hk with hk
    subst hk
    unfold keyIs at hi
    split at hi
    all_goals try (exfalso; simp_all; done)
    rename_i a e1 e2
    injection hi with hi
    exact ⟨_, hd, by rw [← hi]; simp [MapKept.IsKey], by rw [hr.sc_inv, hi]⟩
  · simp at hk
theorem keyEq_same {d : TypeDesc} {key y : Value} {t : Bool} (hk : MapKept.IsKey d key) (he : keyEq key y = some t) : Instr.sameNow d key y = some t := by
  unfold keyEq at he
  split at he
  · cases d <;> simp [MapKept.IsKey] at hk
    simpa [Instr.sameNow] using he
  · cases d <;> simp [MapKept.IsKey] at hk
    simpa [Instr.sameNow] using he
  · cases d <;> simp [MapKept.IsKey] at hk
    simpa [Instr.sameNow] using he
  · simp at he
theorem keyEq_eq {key y : Value} (he : keyEq key y = some true) : key = y := by
  unfold keyEq at he
  split at he
  · injection he with he
    rw [(MapKept.bytes_beq _ _).1 he]
  · split at he
    · rename_i hk
      injection he with he
      simp at he
      rw [hk, he]
    · simp at he
  · injection he with he
    simp at he
    rw [he]
  · simp at he
theorem findM_run {d : TypeDesc} {key : Value} (hk : MapKept.IsKey d key) : ∀ {es : List (Value × V)} {l : List MapEntry} {i : Nat} {r : Option (Nat × V)}, RepM G es l → findM key es i = some r →
    (r = none ∧ Instr.findNow d key l i = some none) ∨ ∃ j v x, r = some (i + j, v) ∧ l[j]? = some x ∧ x.key = key ∧ RepV G v x.val ∧ Instr.findNow d key l i = some (some (i + j, x.val))
  | [], l, i, r, hR, hf => by
    simp only [RepM] at hR
    subst hR
    simp only [findM, Option.some.injEq] at hf
    exact .inl ⟨hf.symm, rfl⟩
  | e :: es, l, i, r, hR, hf => by
    simp only [RepM] at hR
    obtain ⟨x, rest, rfl, h1, h2, h3⟩ := hR
    unfold findM at hf
    split at hf
    · rename_i he
      injection hf with hf
      have hs := keyEq_same hk he
      rw [← h1] at hs
      exact .inr ⟨0, e.2, x, hf.symm, rfl, by rw [h1, keyEq_eq he], h2, by simp [Instr.findNow, hs]⟩
    · rename_i he
      have hs := keyEq_same hk he
      rw [← h1] at hs
      rcases findM_run hk h3 hf with ⟨q1, q2⟩ | ⟨j, v, y, q1, q2, q3, q4, q5⟩
      · exact .inl ⟨q1, by simp [Instr.findNow, hs, q2]⟩
      · exact .inr ⟨j + 1, v, y, by rw [q1]; congr 2; omega, by simpa using q2, q3, q4, by simp [Instr.findNow, hs, q5]; omega⟩
    · simp at hf
theorem zeroV_run {t : TypeId} {z : V} (hz : zeroV P t = some z) (w : World) : ∃ r, (zeroValue t).run P w = .ok r w ∧ RepV G z r := by
  simp only [zeroV, Option.bind_eq_some_iff] at hz
  obtain ⟨r, ⟨i, hi, hz⟩, hv⟩ := hz
  exact ⟨r, by simp [zeroValue, typeInfo, hi, hz], valOf_rep hv⟩
theorem ok_makeMap {t : TypeId} (hop : o.op = .makeMap t none) (R : Rel G h w) : OpOk P o a G (h ++ [.mmap []]) w (.mp h.length) := by
  refine OpOk.value (s := Instr.makeMap t none) (r := .map (some w.heap.size)) (w' := w.alloc (.map #[] 0)) (by simp only [execOp, hop, Option.map_none]) (by simp [Instr.makeMap]) (Ext.newBox G w.heap.size) R.newMap ?_ (bel_alloc R _)
  simp [RepV, Tie.newBox, R.n]
theorem ok_lookup {t kt et : TypeId} {m k : Operand} {ok : Bool} {m' k' : Opd} {kd : LK} {z : V} (hop : o.op = .lookup t m k ok) (hgl : GlobOk G gl) (he : RepEnv G en a.tmps) (R : Rel G h w) (ht : P.underlying t = some (.map kt et)) (hkd : keyKind P kt = some kd) (hz : zeroV P et = some z)
    (hm : opd gl m = some m') (hk : opd gl k = some k') (hs : step base en h (.lookup kd z ok m' k') = some (v, h')) : OpOk P o a G h' w v := by
  simp only [step, Option.map_eq_some_iff, Prod.mk.injEq] at hs
  obtain ⟨⟨u, f⟩, h1, rfl, rfl⟩ := hs
  unfold lookupV at h1
  simp only [Option.bind_eq_some_iff] at h1
  obtain ⟨key, hkey, h1⟩ := h1
  obtain ⟨d, hd, hik, hrk⟩ := keyIs_inv hkd (opd_rep hgl he hk) hkey
  have hrm := opd_rep hgl he hm
  obtain ⟨rz, hzr, hzv⟩ := zeroV_run (G := G) hz w
  have fin : ∀ (rv : Value), RepV G u rv → (Instr.lookup t (a.eval m) (a.eval k) ok).run P w = .ok (if ok then .tuple #[rv, .bool f] else rv) w → OpOk P o a G h w (if ok then V.tup [u, .bool f] else u) := by
    intro rv hv hrun
    refine OpOk.quiet R (by simp only [execOp, hop]) hrun ?_
    cases ok
    · exact hv
    · simp only [if_true, RepV]
      exact ⟨_, rfl, by simp only [RepL]; exact ⟨_, _, rfl, hv, _, _, rfl, RepV.bool _ _, rfl⟩⟩
  split at h1
  · rename_i em
    rw [em] at hrm
    injection h1 with h1
    simp only [Prod.mk.injEq] at h1
    obtain ⟨rfl, rfl⟩ := h1
    have hrm := hrm.sc_inv
    have hc : (Instr.checkKey true 10000 kt key).run P w = .ok () w := MapKept.run_checkKey hd hik true 9999
    have hf : (Instr.findKey kt key []).run P w = .ok none w := MapKept.run_findKey hd rfl
    refine fin rz hzv ?_
    rw [hrm, hrk]
    cases ok <;> simp [Instr.lookup, run_underlying ht, hc, hf, hzr, Result.andThen]
  · rename_i b em
    rw [em] at hrm
    split at h1
    · rename_i es eb
      simp only [Option.map_eq_some_iff] at h1
      obtain ⟨r, hr, h1⟩ := h1
      obtain ⟨l, clock, hw, hR⟩ := R.mp b es eb
      simp only [RepV] at hrm
      obtain ⟨_, hrm⟩ := hrm
      have hc : ∀ e, (Instr.checkKey e 10000 kt key).run P w = .ok () w := fun e => MapKept.run_checkKey hd hik e 9999
      rcases findM_run hik hR hr with ⟨rfl, q2⟩ | ⟨j, v2, x, rfl, q2, q3, q4, q5⟩
      · simp only [Prod.mk.injEq] at h1
        obtain ⟨rfl, rfl⟩ := h1
        have hf := MapKept.run_findKey (P := P) (w := w) hd q2
        refine fin rz hzv ?_
        rw [hrm, hrk]
        cases ok <;> simp [Instr.lookup, run_underlying ht, MapKept.run_getObj_map hw, hc, hf, hzr, Result.andThen]
      · simp only [Prod.mk.injEq] at h1
        obtain ⟨rfl, rfl⟩ := h1
        have hf := MapKept.run_findKey (P := P) (w := w) hd q5
        refine fin x.val q4 ?_
        rw [hrm, hrk]
        cases ok <;> simp [Instr.lookup, run_underlying ht, MapKept.run_getObj_map hw, hc, hf, Result.andThen]
    · simp at h1
  · simp at h1
theorem sameBits_key {d : TypeDesc} {key : Value} (hk : MapKept.IsKey d key) : Instr.sameBits 10000 key key = true := by
  cases d <;> cases key <;> simp_all [MapKept.IsKey, Instr.sameBits]
  exact (MapKept.bytes_beq _ _).2 rfl
theorem ok_mapUpdate {t kt et : TypeId} {m k x : Operand} {m' k' x' : Opd} {kd : LK} (hop : o.op = .mapUpdate t m k x ∨ o.op = .insert t m k x) (hgl : GlobOk G gl) (he : RepEnv G en a.tmps) (R : Rel G h w) (ht : P.underlying t = some (.map kt et)) (hkd : keyKind P kt = some kd)
    (hm : opd gl m = some m') (hk : opd gl k = some k') (hx : opd gl x = some x') (hs : step base en h (.mapUpdate kd m' k' x') = some (v, h')) : OpOk P o a G h' w v := by
  simp only [step, Option.map_eq_some_iff, Prod.mk.injEq] at hs
  obtain ⟨h2, h1, rfl, rfl⟩ := hs
  unfold updateV at h1
  simp only [Option.bind_eq_some_iff] at h1
  obtain ⟨key, hkey, h1⟩ := h1
  obtain ⟨d, hd, hik, hrk⟩ := keyIs_inv hkd (opd_rep hgl he hk) hkey
  have hrm := opd_rep hgl he hm
  have hrx := opd_rep hgl he hx
  split at h1
  · rename_i b em
    rw [em] at hrm
    split at h1
    · rename_i es eb
      split at h1
      · rename_i hcond
        simp only [Option.map_eq_some_iff] at h1
        obtain ⟨r, hr, h1⟩ := h1
        obtain ⟨l, clock, hw, hR⟩ := R.mp b es eb
        simp only [RepV] at hrm
        obtain ⟨_, hrm⟩ := hrm
        have hreal : G.real h b = some (G.bx b) := by unfold Tie.real; rw [eb]
        have hc : (Instr.checkKey false 10000 kt key).run P w = .ok () w := MapKept.run_checkKey hd hik false 9999
        have hlt : G.bx b < w.heap.size := R.lt hreal
        have fin : ∀ (l' : Array MapEntry) (clock' : Nat) (es' : List (Value × V)), (Instr.mapUpdate t (a.eval m) (a.eval k) (a.eval x)).run P w = .ok () { w with heap := w.heap.setIfInBounds (G.bx b) (.map l' clock') } →
            RepM G es' l'.toList → OpOk P o a G (h.set b (.mmap es')) w .undef := by
          intro l' clock' es' hrun hR'
          refine ⟨undef, _, G, .inr ⟨?_, rfl⟩, Ext.refl G, R.setMap (w' := { w with heap := w.heap.setIfInBounds (G.bx b) (.map l' clock') }) eb (by simp) ?_ (clock := clock') (by simp [hlt]) hR', by simp [RepV], ⟨⟨rfl, rfl, rfl, by simp, ?_⟩, ?_⟩⟩
          · rcases hop with hop | hop <;> simp only [execOp, hop, Sem.run_bind, hrun, Result.andThen_ok] <;> rfl
          · intro c hc _
            simp [Ne.symm hc]
          · intro c hc
            have := (R.low b _ hreal).1
            simp [show ¬ G.bx b = c by omega]
          · intro c hc
            have : ¬ G.bx b = c := fun e => by rw [← e, R.kp_of hreal] at hc; exact absurd hc (by simp)
            simp [this]
        rcases findM_run hik hR hr with ⟨rfl, q2⟩ | ⟨j, v2, y, rfl, q2, q3, q4, q5⟩
        · simp only at h1
          subst h1
          have hf := MapKept.run_findKey (P := P) (w := w) hd q2
          refine fin (l.push { key, val := a.eval x, born := clock }) (clock + 1) _ ?_ ?_
          · rw [hrm, hrk]
            simp [Instr.mapUpdate, run_underlying ht, MapKept.run_getObj_map hw, hc, hf, MapKept.run_setObj_map _ hw, Result.andThen]
          · rw [Array.toList_push]
            exact RepM.snoc rfl hrx hR
        · simp only [Nat.zero_add] at h1
          subst h1
          have hf := MapKept.run_findKey (P := P) (w := w) hd q5
          have hkeep : (Instr.keyThatStays key key).run P w = .ok key w := by
            simp [Instr.keyThatStays, sameBits_key hik]
          have hy : l[j]? = some y := by rw [← Array.getElem?_toList]; exact q2
          refine fin (l.modify j fun e => { e with key, val := a.eval x }) clock _ ?_ ?_
          · rw [hrm, hrk]
            simp only [Nat.zero_add] at hf
            simp [Instr.mapUpdate, run_underlying ht, MapKept.run_getObj_map hw, hc, hf, hy, q3, hkeep, MapKept.run_setObj_map _ hw, Result.andThen]
          · have hm : (l.modify j fun e => { e with key, val := a.eval x }).toList = l.toList.set j { y with key, val := a.eval x } := by
              apply List.ext_getElem?
              intro n
              simp only [Array.getElem?_toList, Array.getElem?_modify, List.getElem?_set]
              by_cases hn : j = n
              · subst hn
                obtain ⟨hl, hl2⟩ := Array.getElem?_eq_some_iff.1 hy
                simp [hl, hl2]
              · simp [hn]
            rw [hm]
            exact RepM.set rfl hrx hR
      · simp at h1
    · simp at h1
  · simp at h1
theorem lenM_run {t kt et ty : TypeId} {x : V} {r : Value} {n : Nat} (R : Rel G h w) (ht : P.underlying t = some (.map kt et)) (hx : RepV G x r) (hv : lenMV h x = some n) : (Builtin.len_ #[t] ty #[r]).run P w = .ok (.int .i64 n) w := by
  unfold lenMV at hv
  split at hv
  · injection hv with hv
    subst hv
    have := hx.sc_inv
    subst this
    simp [Builtin.len_, run_underlying ht, goInt]
  · rename_i b
    split at hv
    · rename_i es eb
      injection hv with hv
      subst hv
      obtain ⟨l, clock, hw, hR⟩ := R.mp b es eb
      simp only [RepV] at hx
      obtain ⟨_, rfl⟩ := hx
      have := hR.length
      simp only [Array.length_toList] at this
      simp [Builtin.len_, run_underlying ht, MapKept.run_getObj_map hw, goInt, this, Result.andThen]
    · simp at hv
  · simp at hv
end
end
section
open Go.RowKit (Below)
section
variable {P : Program} {gl : Nat → Option (List V)} {G : Tie} {en : Env} {h h' : Heap} {a : Act} {w : World} {o : Oper} {base : Nat} {v : V}
theorem ok_sliceStr {t : TypeId} {x : Operand} {lo hi : Option Operand} {x' : Opd} {lo' hi' : Option Opd} (hop : o.op = .slice t x lo hi none) (hgl : GlobOk G gl) (he : RepEnv G en a.tmps) (R : Rel G h w) (ht : P.underlying t = some .string)
    (hx : opd gl x = some x') (hl : opdO gl lo = some lo') (hh : opdO gl hi = some hi') (hs : step base en h (.sliceStr x' lo' hi') = some (v, h')) : OpOk P o a G h' w v := by
  have hrx := opd_rep hgl he hx
  simp only [step] at hs
  split at hs
  · rename_i s es
    simp only [Option.bind_eq_some_iff] at hs
    obtain ⟨l, h1, e, h2, hs⟩ := hs
    split at hs
    · rename_i hc
      injection hs with hs
      simp only [Prod.mk.injEq] at hs
      obtain ⟨rfl, rfl⟩ := hs
      rw [es] at hrx
      have h3 := sliceStr_run (P := P) (w := w) ht (boundO_OB hgl he hl h1) (boundO_OB hgl he hh h2) hc.1 hc.2
      rw [← hrx.sc_inv] at h3
      exact OpOk.quiet R (by simp only [execOp, hop, Option.map_none]) h3 (RepV.str _ _)
    · simp at hs
  · simp at hs
theorem ok_slice {t e : TypeId} {sz : Nat} {x : Operand} {lo hi mx : Option Operand} {x' : Opd} {lo' hi' mx' : Option Opd} (hop : o.op = .slice t x lo hi mx) (hgl : GlobOk G gl) (he : RepEnv G en a.tmps) (R : Rel G h w)
    (ht : P.underlying t = some (.slice e)) (hg : growElem P e = some sz)
    (hx : opd gl x = some x') (hl : opdO gl lo = some lo') (hh : opdO gl hi = some hi') (hm : opdO gl mx = some mx') (hs : step base en h (.slice sz x' lo' hi' mx') = some (v, h')) : OpOk P o a G h' w v := by
  have hrx := opd_rep hgl he hx
  obtain ⟨i, z, hi1, hz1, rfl, _⟩ := growElem_inv hg
  have hsz : sizeO P e = some i.size := by simp [sizeO, hi1]
  simp only [step, Option.bind_eq_some_iff] at hs
  obtain ⟨l, h1, hs⟩ := hs
  have hlo := boundO_OB hgl he hl h1
  have some_inv : ∀ {q : Option Operand} {y : Opd}, opdO gl q = some (some y) → ∃ z, q = some z ∧ opd gl z = some y := by
    intro q y hq
    cases q with
    | none => simp [opdO] at hq
    | some z =>
      simp only [opdO, Option.map_eq_some_iff, Option.some.injEq] at hq
      obtain ⟨u, hu, rfl⟩ := hq
      exact ⟨z, rfl, hu⟩
  have none_inv : ∀ {q : Option Operand}, opdO gl q = some none → q = none := by
    intro q hq
    cases q with
    | none => rfl
    | some z => simp [opdO] at hq
  have fin : ∀ {hin mxn : Option Nat}, (∀ d, OB d (hi.map a.eval) (hin.getD d)) → (∀ d, OB d (mx.map a.eval) (mxn.getD d)) → (hi.map a.eval = none → mx.map a.eval = none) → (mxn = none ↔ mx.map a.eval = none) → (hin = none → mxn = none) →
      zg h i.size (x'.get en) l hin mxn = some (v, h') → OpOk P o a G h' w v := by
    intro hin mxn a1 a2 a3 a4 a5 hv
    obtain ⟨r, G', h3, h4, h5, h6⟩ := sliceV_run R ht hsz hrx hlo a1 a2 a3 a4 a5 hv
    exact OpOk.value (by simp only [execOp, hop]) h3 h4 h5 h6 (Bel.refl _ _)
  split at hs
  · have e1 := none_inv hh
    have e2 := none_inv hm
    subst e1; subst e2
    exact fin (fun d => .inl ⟨rfl, rfl⟩) (fun d => .inl ⟨rfl, rfl⟩) (fun _ => rfl) (by simp) (fun _ => rfl) hs
  · rename_i eo
    have e2 := none_inv hm
    obtain ⟨z1, rfl, hz⟩ := some_inv hh
    subst e2
    simp only [Option.bind_eq_some_iff] at hs
    obtain ⟨en1, h2, hs⟩ := hs
    obtain ⟨k, i1, b1, b2, b3⟩ := asNat_run (opd_rep hgl he hz) h2
    exact fin (fun d => .inr ⟨k, i1, by simp [b1], b2, by simpa using b3⟩) (fun d => .inl ⟨rfl, rfl⟩) (fun _ => rfl) (by simp) (fun _ => rfl) hs
  · rename_i eo mo
    obtain ⟨z1, rfl, hz⟩ := some_inv hh
    obtain ⟨z2, rfl, hz2⟩ := some_inv hm
    simp only [Option.bind_eq_some_iff] at hs
    obtain ⟨en1, h2, m, h3, hs⟩ := hs
    obtain ⟨k, i1, b1, b2, b3⟩ := asNat_run (opd_rep hgl he hz) h2
    obtain ⟨k', i2, c1, c2, c3⟩ := asNat_run (opd_rep hgl he hz2) h3
    exact fin (fun d => .inr ⟨k, i1, by simp [b1], b2, by simpa using b3⟩) (fun d => .inr ⟨k', i2, by simp [c1], c2, by simpa using c3⟩) (by simp) (by simp) (by simp) hs
  · simp at hs
theorem ok_sliceArr {t e : TypeId} {n sz : Nat} {x : Operand} {lo hi : Option Operand} {x' : Opd} {lo' hi' : Option Opd} (hop : o.op = .slice t x lo hi none) (hgl : GlobOk G gl) (he : RepEnv G en a.tmps) (R : Rel G h w)
    (ht : P.underlying t = some (.array n e)) (hg : growElem P e = some sz)
    (hx : opd gl x = some x') (hl : opdO gl lo = some lo') (hh : opdO gl hi = some hi') (hs : step base en h (.sliceArr n sz x' lo' hi') = some (v, h')) : OpOk P o a G h' w v := by
  have hrx := opd_rep hgl he hx
  obtain ⟨i, z, hi1, hz1, rfl, _⟩ := growElem_inv hg
  have hsz : sizeO P e = some i.size := by simp [sizeO, hi1]
  simp only [step] at hs
  split at hs
  · rename_i cs l e' es h1 h2
    split at hs
    · rename_i hc
      obtain ⟨rfl, rfl, hnc, hpos, hn0⟩ := hc
      injection hs with hs
      simp only [Prod.mk.injEq] at hs
      obtain ⟨rfl, rfl⟩ := hs
      rw [es] at hrx
      simp only [RepV, Nat.add_zero] at hrx
      obtain ⟨b, oo, hr, hgr, hF⟩ := hrx
      have hb := bounds_run (P := P) (w := w) (b := false) (len := e') (cap := e') (boundO_OB hgl he hl h1) (boundO_OB hgl he hh h2) (.inl ⟨rfl, rfl⟩ : OB e' none e') (by simp) (Nat.zero_le _) (Nat.le_refl _) (Nat.le_refl _)
      refine OpOk.quiet (s := Instr.sliceAt t (a.eval x) (lo.map a.eval) (hi.map a.eval) none) (r := .slice (some ⟨b, oo, none⟩) e' e') R (by simp only [execOp, hop, Option.map_none]) ?_ ?_
      · rw [hr]
        simp [Instr.sliceAt, run_underlying ht w, Instr.sureAddr, hb, sizeO_run hsz w, Addr.add]
      · have hlen : ((List.range e').map fun k => (cs.drop (k * i.size)).take i.size).length = e' := by simp
        simp only [RepV]
        refine ⟨_, _, by rw [hlen], by rw [hlen]; exact Nat.le_refl _, fun _ => by rw [hlen], ?_, b, oo, fun _ => rfl, by simp, RepRows.of_get fun k c hk => ?_⟩
        · rw [List.all_eq_true]
          intro r hr
          simp only [List.mem_map] at hr
          obtain ⟨k, _, rfl⟩ := hr
          rw [List.all_eq_true] at hgr ⊢
          exact fun y hy => hgr y (List.mem_of_mem_drop (List.mem_of_mem_take hy))
        · simp only [List.getElem?_map, Option.map_eq_some_iff] at hk
          obtain ⟨k', hk', rfl⟩ := hk
          have hkl : k < e' := by
            rcases Nat.lt_or_ge k e' with hl | hl
            · exact hl
            · rw [List.getElem?_eq_none (by simpa using hl)] at hk'
              simp at hk'
          rw [List.getElem?_range hkl] at hk'
          injection hk' with hk'
          subst hk'
          have hroom : k * i.size + i.size ≤ cs.length := row_room (rs := Array.replicate cs.length undef) (by simpa using hnc.symm) (Nat.le_refl _) hkl |> fun h => by simpa using h
          refine ⟨by simp; omega, RepF.of_get fun j c hj => ?_⟩
          rw [List.getElem?_take] at hj
          split at hj
          · rw [List.getElem?_drop] at hj
            have := hF.get hj
            rwa [← Nat.add_assoc] at this
          · simp at hj
    · simp at hs
  · rename_i b ep l e' es h1 h2
    split at hs
    · rename_i z rows hra
      split at hs
      · rename_i hc
        obtain ⟨rfl, rfl, hle, hen⟩ := hc
        injection hs with hs
        simp only [Prod.mk.injEq] at hs
        obtain ⟨rfl, rfl⟩ := hs
        rw [es] at hrx
        obtain ⟨ty, eq, hpos, L, rs, hL, hLe, hLs, hcp, hw, hss, hB⟩ := R.rowAt hra
        simp only [RepV] at hrx
        obtain ⟨hb', a', hr, hLx⟩ := hrx
        obtain ⟨k1, k2⟩ := hLx L hL
        have ha := k2 hLe.symm
        simp only [Nat.zero_mul, Nat.zero_add] at ha
        subst ha
        have hb := bounds_run (P := P) (w := w) (b := false) (len := rows.length) (cap := rows.length) (boundO_OB hgl he hl h1) (boundO_OB hgl he hh h2) (.inl ⟨rfl, rfl⟩ : OB rows.length none rows.length) (by simp) hle hen (Nat.le_refl _)
        refine OpOk.quiet (s := Instr.sliceAt t (a.eval x) (lo.map a.eval) (hi.map a.eval) none) (r := .slice (some (if rows.length = l then ⟨L.blk, 0, none⟩ else ⟨L.blk, l * i.size, none⟩)) (e' - l) (rows.length - l)) R (by simp only [execOp, hop, Option.map_none]) ?_ ?_
        · rw [hr]
          by_cases hq : rows.length = l
          · rw [if_pos hq]
            simp [Instr.sliceAt, run_underlying ht w, Instr.sureAddr, hb, sizeO_run hsz w, add_none]
            intro hq'
            exact absurd hq hq'
          · rw [if_neg hq]
            simp [Instr.sliceAt, run_underlying ht w, Instr.sureAddr, hb, sizeO_run hsz w, add_none]
            intro hq'
            exact absurd (by omega) hq
        · simp only [RepV]
          refine ⟨hb', _, _, rfl, fun L' hL' => ?_⟩
          rw [hL] at hL'
          injection hL' with hL'
          subst hL'
          exact ⟨k1, fun _ => ⟨by omega, by omega, fun h0 => by rw [if_neg (by omega), hLs]⟩⟩
      · simp at hs
    · simp at hs
  · simp at hs
theorem ok_minmax {mx : Bool} {ts : Array TypeId} {xs : Array Operand} {ys : List Opd} (hop : o.op = .call { callee := .builtin (if mx then .max else .min), args := xs, argTypes := ts }) (hgl : GlobOk G gl) (he : RepEnv G en a.tmps) (R : Rel G h w)
    (hx : opds gl xs.toList = some ys) (hs : step base en h (.mnmx mx ys) = some (v, h')) : OpOk P o a G h' w v := by
  have hr := opds_rep hgl he hx
  simp only [step] at hs
  split at hs
  · rename_i y r ey
    obtain ⟨h1, h2⟩ := some_pair hs
    simp only at h1 h2
    subst h2
    rw [ey] at hr
    simp only [RepL] at hr
    obtain ⟨q, rest, eq, hq, hrest⟩ := hr
    obtain ⟨z, h3, h4⟩ := minmax_run (P := P) (w := w) mx ts 0 hq hrest h1
    refine ⟨z, w, G, .inl ?_, Ext.refl G, R, h4, Bel.refl _ _⟩
    have hargs : (xs.map a.eval).toList = q :: rest := by simpa using eq
    cases mx
    · simp only [Bool.false_eq_true, if_false] at hop h3
      simp only [execOp, hop, resolve, Sem.run_bind, Sem.run_pure, Result.andThen_ok, invoke, builtin, Builtin.min_, hargs, h3]
    · simp only [if_true] at hop h3
      simp only [execOp, hop, resolve, Sem.run_bind, Sem.run_pure, Result.andThen_ok, invoke, builtin, Builtin.max_, hargs, h3]
  · simp at hs
theorem step_run (hgl : GlobOk G gl) (he : RepEnv G en a.tmps) (R : Rel G h w) {ao : AOp} (hc : compOp P gl o.op = some ao) (hs : step base en h ao = some (v, h')) : OpOk P o a G h' w v := by
  cases hop : o.op <;> rw [hop] at hc <;> simp only [compOp, reduceCtorEq] at hc
  case move x =>
    simp only [Option.map_eq_some_iff] at hc
    obtain ⟨y, hy, rfl⟩ := hc
    simp only [step, Option.some.injEq, Prod.mk.injEq] at hs
    obtain ⟨rfl, rfl⟩ := hs
    exact ok_move (.inl hop) hgl he R hy
  case assign x =>
    simp only [Option.map_eq_some_iff] at hc
    obtain ⟨y, hy, rfl⟩ := hc
    simp only [step, Option.some.injEq, Prod.mk.injEq] at hs
    obtain ⟨rfl, rfl⟩ := hs
    exact ok_move (.inr hop) hgl he R hy
  case pick c x y =>
    simp only [Option.bind_eq_some_iff, Option.map_eq_some_iff] at hc
    obtain ⟨c', h1, x', h2, y', h3, rfl⟩ := hc
    simp only [step] at hs
    split at hs
    · rename_i t ht
      simp only [Option.some.injEq, Prod.mk.injEq] at hs
      obtain ⟨rfl, rfl⟩ := hs
      exact ok_pick hop hgl he R h1 h2 h3 ht
    · simp at hs
  case alloc t =>
    simp only [Option.map_eq_some_iff] at hc
    obtain ⟨zs, hz, hc⟩ := hc
    split at hc
    · subst hc
      exact ok_allocA hop R hz hs
    · subst hc
      simp only [step, Option.some.injEq, Prod.mk.injEq] at hs
      obtain ⟨rfl, rfl⟩ := hs
      exact ok_alloc hop R hz
  case box t x =>
    simp only [Option.map_eq_some_iff] at hc
    obtain ⟨y, hy, hc⟩ := hc
    split at hc
    · subst hc
      exact ok_boxF hop hgl he R hy hs
    split at hc
    · subst hc
      exact ok_boxA hop hgl he R hy hs
    · subst hc
      simp only [step] at hs
      split at hs
      · rename_i hone
        simp only [Option.some.injEq, Prod.mk.injEq] at hs
        obtain ⟨rfl, rfl⟩ := hs
        exact ok_box hop hgl he R hy hone
      · simp at hs
  case build t ps =>
    simp only [Option.bind_eq_some_iff] at hc
    obtain ⟨d, hd, hc⟩ := hc
    split at hc
    · rename_i fs
      simp only [Option.bind_eq_some_iff, Option.map_eq_some_iff] at hc
      obtain ⟨zs, hz, pl, hp, qs, hq, rfl⟩ := hc
      simp only [step, Option.map_eq_some_iff, Prod.mk.injEq] at hs
      obtain ⟨cs, hf, rfl, rfl⟩ := hs
      exact ok_build hop hgl he R hd hz (.inl ⟨fs, pl, rfl, hp, hq⟩) hf
    · rename_i n e
      simp only [Option.bind_eq_some_iff, Option.map_eq_some_iff] at hc
      obtain ⟨zs, hz, s, hs', qs, hq, rfl⟩ := hc
      simp only [step, Option.map_eq_some_iff, Prod.mk.injEq] at hs
      obtain ⟨cs, hf, rfl, rfl⟩ := hs
      exact ok_build hop hgl he R hd hz (.inr ⟨n, e, s, rfl, hs', hq⟩) hf
    · simp at hc
  case makeMap t r =>
    cases r with
    | none =>
      simp only [Option.some.injEq] at hc
      subst hc
      simp only [step, Option.some.injEq, Prod.mk.injEq] at hs
      obtain ⟨rfl, rfl⟩ := hs
      exact ok_makeMap hop R
    | some r => simp at hc
  case lookup t m k ok =>
    simp only [Option.bind_eq_some_iff] at hc
    obtain ⟨d, hd, hc⟩ := hc
    split at hc
    · simp only [Option.bind_eq_some_iff, Option.map_eq_some_iff] at hc
      obtain ⟨kd, hkd, z, hz, m', hm, k', hk, rfl⟩ := hc
      exact ok_lookup hop hgl he R hd hkd hz hm hk hs
    · simp at hc
  case mapUpdate t m k x =>
    simp only [Option.bind_eq_some_iff] at hc
    obtain ⟨d, hd, hc⟩ := hc
    split at hc
    · simp only [Option.bind_eq_some_iff, Option.map_eq_some_iff] at hc
      obtain ⟨kd, hkd, m', hm, k', hk, x', hx, rfl⟩ := hc
      exact ok_mapUpdate (.inl hop) hgl he R hd hkd hm hk hx hs
    · simp at hc
  case insert t m k x =>
    simp only [Option.bind_eq_some_iff] at hc
    obtain ⟨d, hd, hc⟩ := hc
    split at hc
    · simp only [Option.bind_eq_some_iff, Option.map_eq_some_iff] at hc
      obtain ⟨kd, hkd, m', hm, k', hk, x', hx, rfl⟩ := hc
      exact ok_mapUpdate (.inr hop) hgl he R hd hkd hm hk hx hs
    · simp at hc
  case buildSlice t n ps =>
    simp only [Option.bind_eq_some_iff] at hc
    obtain ⟨d, hd, hc⟩ := hc
    split at hc
    · rename_i e
      simp only [Option.bind_eq_some_iff] at hc
      obtain ⟨sz, hg, zs, hz, hc⟩ := hc
      split at hc
      · rename_i hn
        simp only [Option.map_eq_some_iff] at hc
        obtain ⟨qs, hq, rfl⟩ := hc
        exact ok_bslice hop hgl he R hd hg hz hn hq hs
      · simp at hc
    · simp at hc
  case load t x =>
    simp only [Option.bind_eq_some_iff, Option.map_eq_some_iff] at hc
    obtain ⟨n, hn, y, hy, rfl⟩ := hc
    simp only [step] at hs
    obtain ⟨h1, h2⟩ := some_pair hs
    simp only at h1 h2
    subst h2
    exact ok_load hop hgl he R hn hy h1
  case store t x y =>
    simp only [Option.bind_eq_some_iff, Option.map_eq_some_iff] at hc
    obtain ⟨n, hn, x', hx, y', hy, rfl⟩ := hc
    simp only [step, Option.map_eq_some_iff, Prod.mk.injEq] at hs
    obtain ⟨h2, h1, rfl, rfl⟩ := hs
    exact ok_store hop hgl he R hn hx hy h1
  case nilCheck x =>
    simp only [Option.map_eq_some_iff] at hc
    obtain ⟨y, hy, rfl⟩ := hc
    obtain ⟨h1, h2, rfl⟩ := nilCheck_run (P := P) (w := w) (ρ := a.eval) hop (opd_rep hgl he hy) hs
    exact ⟨_, w, G, .inl h1, Ext.refl G, R, h2, Bel.refl _ _⟩
  case binOp op t x y ty =>
    split at hc
    · rename_i fs ht
      simp only [Option.bind_eq_some_iff] at hc
      obtain ⟨ls, hl, x', hx, y', hy, hc⟩ := hc
      have fin : ∀ neg, op = (if neg then .neq else .eql) → ao = .eqAgg neg ls x' y' → OpOk P o a G h' w v := by
        rintro neg hopn rfl
        have hrx := opd_rep hgl he hx
        have hry := opd_rep hgl he hy
        simp only [step] at hs
        split at hs
        · rename_i xs ys e1 e2
          simp only [Option.map_eq_some_iff, Prod.mk.injEq] at hs
          obtain ⟨res, h1, rfl, rfl⟩ := hs
          rw [e1] at hrx
          rw [e2] at hry
          have h3 := eqAgg_run (P := P) (w := w) (neg := neg) (ox := x) (oy := y) ht hl hrx hry h1
          rw [← hopn] at h3
          exact OpOk.quiet R (by simp only [execOp, hop]) h3 (RepV.bool _ _)
        · simp at hs
      split at hc
      · injection hc with hc; exact fin false rfl hc.symm
      · injection hc with hc; exact fin true rfl hc.symm
      · simp at hc
    · exact ok_bin hop hgl he R hc hs
  case unOp op t x =>
    simp only [Option.map_eq_some_iff] at hc
    obtain ⟨y, hy, rfl⟩ := hc
    simp only [step] at hs
    obtain ⟨h1, h2⟩ := some_pair hs
    simp only at h1 h2
    subst h2
    obtain ⟨r, h3, h4⟩ := un_run (P := P) (w := w) (opd_rep hgl he hy) h1
    exact OpOk.quiet R (by simp only [execOp, hop]) h3 h4
  case convert s d x => exact ok_conv hop hgl he R hc hs
  case makeInterface t x =>
    simp only [Option.bind_eq_some_iff] at hc
    obtain ⟨d, hd, hc⟩ := hc
    have fin : ∀ y, opd gl x = some y → ao = .makeIface t y → (∀ ms, d ≠ .interface ms) → OpOk P o a G h' w v := by
      rintro y hy rfl hni
      simp only [step] at hs
      split at hs
      · simp only [Option.some.injEq, Prod.mk.injEq] at hs
        obtain ⟨rfl, rfl⟩ := hs
        refine OpOk.quiet (s := Instr.makeInterface t (a.eval x)) (r := .iface t (a.eval x)) R (by simp only [execOp, hop]) ?_ (by simp only [RepV]; exact ⟨_, rfl, opd_rep hgl he hy⟩)
        simp only [Instr.makeInterface, Sem.run_bind, run_underlying hd w, Result.andThen_ok]
        cases d <;> first | rfl | exact absurd rfl (hni _)
      · simp at hs
    split at hc
    · simp at hc
    · rename_i hni
      simp only [Option.map_eq_some_iff] at hc
      obtain ⟨y, hy, rfl⟩ := hc
      exact fin y hy rfl hni
  case makeFunc f x c =>
    simp only [Option.bind_eq_some_iff, Option.map_eq_some_iff] at hc
    obtain ⟨x', hx, c', hcc, rfl⟩ := hc
    simp only [step, Option.some.injEq, Prod.mk.injEq] at hs
    obtain ⟨rfl, rfl⟩ := hs
    refine OpOk.quiet (s := Instr.makeFunc f (x.map a.eval) (c.map a.eval)) (r := .func f (x.map a.eval) (c.map a.eval)) R (by simp only [execOp, hop]) rfl ?_
    simp only [RepV]
    exact ⟨_, _, rfl, by simpa using opds_rep hgl he hx, by simpa using opds_rep hgl he hcc⟩
  case makeSlice t l c =>
    simp only [Option.bind_eq_some_iff] at hc
    obtain ⟨d, hd, hc⟩ := hc
    split at hc
    · rename_i e
      simp only [Option.bind_eq_some_iff] at hc
      obtain ⟨sz, hg, zs, hz, hc⟩ := hc
      split at hc
      · simp only [Option.bind_eq_some_iff, Option.map_eq_some_iff] at hc
        obtain ⟨l', hl, c', hcc, rfl⟩ := hc
        exact ok_makeSlice hop hgl he R hd hg hz hl hcc hs
      · simp at hc
    · simp at hc
  case slice t x lo hi mx =>
    simp only [Option.bind_eq_some_iff] at hc
    obtain ⟨d, hd, x', hx, lo', hl, hi', hh, mx', hm, hc⟩ := hc
    have hmn : mx'.isNone = true → mx = none := by
      intro e
      cases mx with
      | none => rfl
      | some m =>
        simp only [opdO, Option.map_eq_some_iff] at hm
        obtain ⟨q, _, rfl⟩ := hm
        simp at e
    split at hc
    · split at hc
      · rename_i e
        have := hmn e
        subst this
        injection hc with hc
        subst hc
        exact ok_sliceStr hop hgl he R hd hx hl hh hs
      · simp at hc
    · simp only [Option.map_eq_some_iff] at hc
      obtain ⟨sz, hg, rfl⟩ := hc
      exact ok_slice hop hgl he R hd hg hx hl hh hm hs
    · split at hc
      · rename_i e
        have := hmn e
        subst this
        simp only [Option.map_eq_some_iff] at hc
        obtain ⟨sz, hg, rfl⟩ := hc
        exact ok_sliceArr hop hgl he R hd hg hx hl hh hs
      · simp at hc
    · simp at hc
  case fieldAddr t x i =>
    simp only [Option.bind_eq_some_iff] at hc
    obtain ⟨d, hd, hc⟩ := hc
    split at hc
    · rename_i fs
      simp only [Option.bind_eq_some_iff] at hc
      obtain ⟨f, hf, s, hs', hc⟩ := hc
      split at hc
      · rename_i hpos
        simp only [Option.map_eq_some_iff] at hc
        obtain ⟨y, hy, rfl⟩ := hc
        simp only [step] at hs
        obtain ⟨h1, h2⟩ := some_pair hs
        simp only at h1 h2
        subst h2
        obtain ⟨r, h3, h4⟩ := fieldAddr_run (P := P) (w := w) hd hf hs' hpos (opd_rep hgl he hy) h1
        exact OpOk.quiet R (by simp only [execOp, hop]) h3 h4
      · simp at hc
    · simp at hc
  case field t x i =>
    simp only [Option.bind_eq_some_iff] at hc
    obtain ⟨d, hd, hc⟩ := hc
    split at hc
    · rename_i fs
      simp only [Option.bind_eq_some_iff, Option.map_eq_some_iff] at hc
      obtain ⟨f, hf, n, hn, y, hy, rfl⟩ := hc
      have hrx := opd_rep hgl he hy
      simp only [step] at hs
      split at hs
      · rename_i cs e
        obtain ⟨h1, h2⟩ := some_pair hs
        simp only at h1 h2
        subst h2
        rw [e] at hrx
        obtain ⟨r, h3, h4⟩ := field_run (P := P) (w := w) hd hf hn hrx h1
        exact OpOk.quiet R (by simp only [execOp, hop]) h3 h4
      · simp at hs
    · simp at hc
  case indexAddr t x i =>
    simp only [Option.bind_eq_some_iff] at hc
    obtain ⟨d, hd, x', hx, i', hi, hc⟩ := hc
    split at hc
    · rename_i e
      simp only [Option.map_eq_some_iff] at hc
      obtain ⟨s, hs', rfl⟩ := hc
      simp only [step, Option.bind_eq_some_iff] at hs
      obtain ⟨k, hk, hs⟩ := hs
      obtain ⟨h1, h2⟩ := some_pair hs
      simp only at h1 h2
      subst h2
      obtain ⟨r, h3, h4⟩ := indexS_run (P := P) R hd hs' (opd_rep hgl he hx) (opd_rep hgl he hi) hk h1
      exact OpOk.quiet R (by simp only [execOp, hop]) h3 h4
    · rename_i n e
      simp only [Option.map_eq_some_iff] at hc
      obtain ⟨s, hs', rfl⟩ := hc
      simp only [step, Option.bind_eq_some_iff] at hs
      obtain ⟨k, hk, hs⟩ := hs
      split at hs
      · rename_i hlt
        obtain ⟨h1, h2⟩ := some_pair hs
        simp only at h1 h2
        subst h2
        obtain ⟨r, h3, h4⟩ := indexA_run (P := P) (w := w) hd hs' (opd_rep hgl he hx) (opd_rep hgl he hi) hk hlt h1
        exact OpOk.quiet R (by simp only [execOp, hop]) h3 h4
      · simp at hs
    · simp at hc
  case index t x i =>
    simp only [Option.bind_eq_some_iff] at hc
    obtain ⟨d, hd, x', hx, i', hi, hc⟩ := hc
    split at hc
    · rename_i n e
      simp only [Option.bind_eq_some_iff, Option.map_eq_some_iff] at hc
      obtain ⟨m, hm, s, hs', rfl⟩ := hc
      simp only [step, Option.bind_eq_some_iff] at hs
      obtain ⟨k, hk, hs⟩ := hs
      have hrx := opd_rep hgl he hx
      split at hs
      · rename_i hlt
        split at hs
        · rename_i cs ec
          obtain ⟨h1, h2⟩ := some_pair hs
          simp only at h1 h2
          subst h2
          rw [ec] at hrx
          obtain ⟨r, h3, h4⟩ := idxArr_run (P := P) (w := w) hd hm hs' hrx (opd_rep hgl he hi) hk hlt h1
          exact OpOk.quiet R (by simp only [execOp, hop]) h3 h4
        · simp at hs
      · simp at hs
    · injection hc with hc
      subst hc
      simp only [step, Option.bind_eq_some_iff] at hs
      obtain ⟨k, hk, hs⟩ := hs
      have hrx := opd_rep hgl he hx
      split at hs
      · rename_i s es
        simp only [Option.map_eq_some_iff, Prod.mk.injEq] at hs
        obtain ⟨c, h1, rfl, rfl⟩ := hs
        rw [es] at hrx
        have h3 := idxStr_run (P := P) (w := w) hd hrx (opd_rep hgl he hi) hk h1
        exact OpOk.quiet R (by simp only [execOp, hop]) h3 (RepV.int _ _ _)
      · simp at hs
    · simp at hc
  case extract x i =>
    simp only [Option.map_eq_some_iff] at hc
    obtain ⟨y, hy, rfl⟩ := hc
    have hrx := opd_rep hgl he hy
    simp only [step] at hs
    split at hs
    · rename_i vs es
      obtain ⟨h1, h2⟩ := some_pair hs
      simp only at h1 h2
      subst h2
      rw [es] at hrx
      simp only [RepV] at hrx
      obtain ⟨rs, hr, hl⟩ := hrx
      obtain ⟨r, h3, h4⟩ := hl.get h1
      refine OpOk.quiet (s := Instr.extract (a.eval x) i) R (by simp only [execOp, hop]) ?_ h4
      rw [hr]
      rw [Array.getElem?_toList] at h3
      simp [Instr.extract, h3]
    · simp at hs
  case call c =>
    obtain ⟨callee, args, ts⟩ := c
    simp only [compCall] at hc
    split at hc
    · simp only [Option.bind_eq_some_iff, Option.map_eq_some_iff] at hc
      obtain ⟨f, hf, xs, hx, rfl⟩ := hc
      simp [step] at hs
    · rename_i b
      have hres : execOp a.eval o = builtin b ts o.type (args.map fun | .const _ => true | _ => false) (args.map a.eval) := by
        simp only [execOp, hop, resolve]
        rfl
      unfold compBuiltin at hc
      split at hc
      · rename_i t x e1 e2
        have ets : ts = #[t] := by rw [← Array.toArray_toList (xs := ts), e1]
        have exs : args = #[x] := by rw [← Array.toArray_toList (xs := args), e2]
        subst ets; subst exs
        simp only [Option.bind_eq_some_iff] at hc
        obtain ⟨d, hd, hc⟩ := hc
        have hgo : ∀ {n : Nat}, (Builtin.len_ #[t] o.type #[a.eval x]).run P w = .ok (goInt n) w → v = .int n → h' = h → OpOk P o a G h' w v := by
          rintro n h1 rfl rfl
          refine ⟨goInt n, w, G, .inl ?_, Ext.refl G, R, RepV.int _ _ _, Bel.refl _ _⟩
          rw [hres]
          simp only [builtin, List.map_toArray, List.map_cons, List.map_nil, Sem.run_bind, h1, Result.andThen_ok]
          rfl
        split at hc
        · simp only [Option.map_eq_some_iff] at hc
          obtain ⟨y, hy, rfl⟩ := hc
          have hrx := opd_rep hgl he hy
          simp only [step] at hs
          split at hs
          · rename_i s es
            simp only [Option.some.injEq, Prod.mk.injEq] at hs
            rw [es] at hrx
            refine hgo (n := s.size) ?_ hs.1.symm hs.2.symm
            rw [hrx.sc_inv]
            simp [Builtin.len_, run_underlying hd w]
          · simp at hs
        · simp only [Option.map_eq_some_iff] at hc
          obtain ⟨y, hy, rfl⟩ := hc
          have hrx := opd_rep hgl he hy
          simp only [step] at hs
          obtain ⟨h1, h2⟩ : ∃ n : Nat, zk (y.get en) = some n ∧ v = .int n ∧ h' = h := by
            simp only [Option.map_eq_some_iff, Prod.mk.injEq] at hs
            obtain ⟨n, h1, h2, h3⟩ := hs
            exact ⟨n, h1, h2.symm, h3.symm⟩
          rename_i e0 n
          have hsl : ∃ b c, a.eval x = .slice b h1 c := by
            obtain ⟨h2, _⟩ := h2
            unfold zk at h2
            split at h2
            · rename_i ee
              rw [ee] at hrx
              injection h2 with h2
              subst h2
              simp only [RepV] at hrx
              obtain ⟨b, c, hr, _⟩ := hrx
              exact ⟨b, c, hr⟩
            · rename_i ee
              rw [ee] at hrx
              injection h2 with h2
              subst h2
              simp only [RepV] at hrx
              obtain ⟨_, b, c, hr, _⟩ := hrx
              exact ⟨_, c, hr⟩
            · rename_i ee
              rw [ee] at hrx
              injection h2 with h2
              subst h2
              exact ⟨none, 0, hrx.sc_inv⟩
            · simp at h2
          obtain ⟨b, c, hr⟩ := hsl
          refine hgo (n := h1) ?_ h2.2.1 h2.2.2
          rw [hr]
          simp [Builtin.len_, run_underlying hd w]
        · rename_i n e
          injection hc with hc
          subst hc
          simp only [step, Option.some.injEq, Prod.mk.injEq] at hs
          refine hgo (n := n) ?_ hs.1.symm hs.2.symm
          simp [Builtin.len_, run_underlying hd w]
        · simp only [Option.map_eq_some_iff] at hc
          obtain ⟨y, hy, rfl⟩ := hc
          simp only [step, Option.map_eq_some_iff, Prod.mk.injEq] at hs
          obtain ⟨n, h1, h2, h3⟩ := hs
          exact hgo (n := n) (lenM_run R hd (opd_rep hgl he hy) h1) h2.symm h3.symm
        · simp at hc
      · rename_i t u s x e1 e2
        have ets : ts = #[t, u] := by rw [← Array.toArray_toList (xs := ts), e1]
        have exs : args = #[s, x] := by rw [← Array.toArray_toList (xs := args), e2]
        subst ets; subst exs
        simp only [Option.bind_eq_some_iff] at hc
        obtain ⟨d, hd, hc⟩ := hc
        split at hc
        · rename_i e
          simp only [Option.bind_eq_some_iff] at hc
          obtain ⟨sz, hg, du, hdu, hc⟩ := hc
          have fin : (P.underlying u = some .string ∨ ∃ e', P.underlying u = some (.slice e')) → ∀ s' x', opd gl s = some s' → opd gl x = some x' → ao = .append e sz s' x' → OpOk P o a G h' w v := by
            rintro hu s' x' hs' hx' rfl
            simp only [step, Option.bind_eq_some_iff] at hs
            obtain ⟨new, h1, h2⟩ := hs
            obtain ⟨r, w', G', h3, h4, h5, h6, h7⟩ := append_run (P := P) (ty := o.type) R hd hu hg (opd_rep hgl he hs') (opd_rep hgl he hx') h1 h2
            refine ⟨r, w', G', .inl ?_, h4, h5, h6, h7⟩
            rw [hres]
            simp only [builtin, List.map_toArray, List.map_cons, List.map_nil, Sem.run_bind, h3, Result.andThen_ok]
            rfl
          split at hc
          · simp only [Option.bind_eq_some_iff, Option.map_eq_some_iff] at hc
            obtain ⟨s', hs', x', hx', rfl⟩ := hc
            exact fin (.inr ⟨_, hdu⟩) s' x' hs' hx' rfl
          · simp only [Option.bind_eq_some_iff, Option.map_eq_some_iff] at hc
            obtain ⟨s', hs', x', hx', rfl⟩ := hc
            exact fin (.inl hdu) s' x' hs' hx' rfl
          · simp at hc
        · simp at hc
      · rename_i t x e1 e2
        have ets : ts = #[t] := by rw [← Array.toArray_toList (xs := ts), e1]
        have exs : args = #[x] := by rw [← Array.toArray_toList (xs := args), e2]
        subst ets; subst exs
        simp only [Option.bind_eq_some_iff] at hc
        obtain ⟨d, hd, hc⟩ := hc
        split at hc
        · simp only [Option.map_eq_some_iff] at hc
          obtain ⟨y, hy, rfl⟩ := hc
          simp only [step, Option.map_eq_some_iff, Prod.mk.injEq] at hs
          obtain ⟨n, h1, rfl, rfl⟩ := hs
          have h3 := cap_run (P := P) (w := w) (ty := o.type) hd (opd_rep hgl he hy) h1
          refine ⟨_, w, G, .inl ?_, Ext.refl G, R, RepV.int _ _ _, Bel.refl _ _⟩
          rw [hres]
          simp only [builtin, List.map_toArray, List.map_cons, List.map_nil, Sem.run_bind, h3, Result.andThen_ok]
          rfl
        · simp at hc
      · rename_i t u s x e1 e2
        have ets : ts = #[t, u] := by rw [← Array.toArray_toList (xs := ts), e1]
        have exs : args = #[s, x] := by rw [← Array.toArray_toList (xs := args), e2]
        subst ets; subst exs
        simp only [Option.bind_eq_some_iff] at hc
        obtain ⟨d, hd, hc⟩ := hc
        split at hc
        · rename_i e
          simp only [Option.bind_eq_some_iff] at hc
          obtain ⟨sz, hg, du, hdu, hc⟩ := hc
          have fin : ∀ s' x', opd gl s = some s' → opd gl x = some x' → ao = .copy sz s' x' → OpOk P o a G h' w v := by
            rintro s' x' hs' hx' rfl
            simp only [step, Option.bind_eq_some_iff, Option.map_eq_some_iff, Prod.mk.injEq] at hs
            obtain ⟨new, h1, ⟨k, h2⟩, h3, rfl, rfl⟩ := hs
            obtain ⟨w', h4, h5, h6⟩ := copy_run (P := P) (u := u) (ty := o.type) R hd hg (opd_rep hgl he hs') (opd_rep hgl he hx') h1 h3
            refine ⟨goInt k, w', G, .inl ?_, Ext.refl G, h5, RepV.int _ _ _, h6⟩
            rw [hres]
            simp only [builtin, List.map_toArray, List.map_cons, List.map_nil, Sem.run_bind, h4, Result.andThen_ok]
            rfl
          split at hc
          · simp only [Option.bind_eq_some_iff, Option.map_eq_some_iff] at hc
            obtain ⟨s', hs', x', hx', rfl⟩ := hc
            exact fin s' x' hs' hx' rfl
          · simp only [Option.bind_eq_some_iff, Option.map_eq_some_iff] at hc
            obtain ⟨s', hs', x', hx', rfl⟩ := hc
            exact fin s' x' hs' hx' rfl
          · simp at hc
        · simp at hc
      · rename_i t x e1 e2
        have ets : ts = #[t] := by rw [← Array.toArray_toList (xs := ts), e1]
        have exs : args = #[x] := by rw [← Array.toArray_toList (xs := args), e2]
        subst ets; subst exs
        simp only [Option.bind_eq_some_iff] at hc
        obtain ⟨d, hd, hc⟩ := hc
        split at hc
        · simp only [Option.bind_eq_some_iff, Option.map_eq_some_iff] at hc
          obtain ⟨sz, hg, zs, hz, y, hy, rfl⟩ := hc
          simp only [step, Option.bind_eq_some_iff, Option.map_eq_some_iff, Prod.mk.injEq] at hs
          obtain ⟨n, h1, ⟨k, h2⟩, h3, rfl, rfl⟩ := hs
          obtain ⟨w', h4, h5, h6⟩ := clear_run (P := P) (ty := o.type) R hd hg hz (opd_rep hgl he hy) h1 h3
          refine ⟨.tuple #[], w', G, .inl ?_, Ext.refl G, h5, by simp [RepV, RepL], h6⟩
          rw [hres]
          simp only [builtin, List.map_toArray, List.map_cons, List.map_nil, Sem.run_bind, h4, Result.andThen_ok]
          rfl
        · simp at hc
      · rename_i x e2
        have exs : args = #[x] := by rw [← Array.toArray_toList (xs := args), e2]
        subst exs
        simp only [Option.map_eq_some_iff] at hc
        obtain ⟨y, hy, rfl⟩ := hc
        simp only [step] at hs
        obtain ⟨h1, h2⟩ := some_pair hs
        simp only at h1 h2
        subst h2
        obtain ⟨r, h3, h4⟩ := sliceData_run (P := P) (ts := ts) (ty := o.type) R (opd_rep hgl he hy) h1
        refine ⟨r, w, G, .inl ?_, Ext.refl G, R, h4, Bel.refl _ _⟩
        rw [hres]
        simp only [builtin, List.map_toArray, List.map_cons, List.map_nil, Sem.run_bind, h3, Result.andThen_ok]
        rfl
      · rename_i pt it x n e1 e2
        have ets : ts = #[pt, it] := by rw [← Array.toArray_toList (xs := ts), e1]
        have exs : args = #[x, n] := by rw [← Array.toArray_toList (xs := args), e2]
        subst ets; subst exs
        simp only [Option.bind_eq_some_iff] at hc
        obtain ⟨d, hd, hc⟩ := hc
        split at hc
        · split at hc
          · rename_i hcell
            simp only [Option.bind_eq_some_iff, Option.map_eq_some_iff] at hc
            obtain ⟨x', hx, n', hn, rfl⟩ := hc
            simp only [step] at hs
            split at hs
            · rename_i k ek
              split at hs
              · rename_i h0
                have hrn := opd_rep hgl he hn
                rw [ek] at hrn
                have hrn := hrn.sc_inv
                obtain ⟨r, w', h3, h4, h5, h6⟩ := strData_run (P := P) (it := it) (ty := o.type) R hd hcell (opd_rep hgl he hx) hs
                refine ⟨r, w', G, .inl ?_, Ext.refl G, h4, h5, h6⟩
                rw [hres]
                have hk : (Value.int .i64 (k.toNat : Int)) = .int .i64 k := by rw [Int.toNat_of_nonneg h0]
                rw [hk] at h3
                simp only [builtin, List.map_toArray, List.map_cons, List.map_nil, Sem.run_bind, hrn, h3, Result.andThen_ok]
                rfl
              · simp at hs
            · simp at hs
          · simp at hc
        · simp at hc
      · simp only [Option.map_eq_some_iff] at hc
        obtain ⟨ys, hy, rfl⟩ := hc
        exact ok_minmax (mx := true) hop hgl he R hy hs
      · simp only [Option.map_eq_some_iff] at hc
        obtain ⟨ys, hy, rfl⟩ := hc
        exact ok_minmax (mx := false) hop hgl he R hy hs
      · simp at hc
    · simp at hc
end
end
end Go.Am
