/- Am: a call, whole: its frame, what it hands back, and what becomes of its own memory. -/
import Derived.Test.YtefbdhbfhgapeaaDoorAmRun6
namespace Go.Am
open Go.RowKit (Below)

/-- Memory behind a call that keeps nothing: its own blocks are never written again. -/
noncomputable def Tie.cut (G : Tie) (h : Heap) (w : World) (base : Nat) : Tie :=
  open Classical in
  { fz := fun k o => if ∃ b, b < base ∧ G.real h b = some k then G.fz k o else w.cell? ⟨k, o, none⟩
    n := base
    bx := G.bx
    rw := fun b => if b < base then G.rw b else none
    b0 := G.b0 }

theorem cut_fz {G : Tie} {h : Heap} {w : World} (R : Rel G h w) {base k o : Nat} {v : Value} (hv : G.fz k o = some v) : (G.cut h w base).fz k o = some v := by
  unfold Tie.cut
  simp only
  split
  · exact hv
  · exact R.fz k o v hv

theorem cut_free {G : Tie} {h : Heap} {w : World} (R : Rel G h w) {base k o b : Nat} (hb : base ≤ b) (hk : G.real h b = some k) : (G.cut h w base).fz k o = w.cell? ⟨k, o, none⟩ := by
  unfold Tie.cut
  simp only
  rw [if_neg]
  rintro ⟨b', hb', hk'⟩
  have := R.inj b' b k hk' hk
  omega

theorem ground_refs {n : Nat} {v : V} (h : ground v = true) : refsLt n v = true := by
  cases v <;> simp_all [ground, refsLt]

theorem ground_all {n : Nat} {l : List V} (h : l.all ground = true) : refsLts n l = true := by
  rw [refsLts_all]
  rw [List.all_eq_true] at h
  exact fun v hv => ground_refs (h v hv)

section
variable {G : Tie} {h : Heap} {w : World} {base : Nat}

mutual
theorem RepV.cut (R : Rel G h w) : ∀ {v : V} {r : Value}, refsLt base v = true → RepV G v r → RepV (G.cut h w base) v r
  | .undef, _, _, _ => by simp [RepV]
  | .sc v, r, _, hv => by simpa [RepV] using hv
  | .agg cs, r, hr, hv => by
    simp only [RepV, refsLt] at hv hr ⊢
    obtain ⟨rs, e, hv⟩ := hv
    exact ⟨rs, e, RepL.cut R hr hv⟩
  | .tup cs, r, hr, hv => by
    simp only [RepV, refsLt] at hv hr ⊢
    obtain ⟨rs, e, hv⟩ := hv
    exact ⟨rs, e, RepL.cut R hr hv⟩
  | .slc ex sz rows, r, _, hv => by
    simp only [RepV] at hv ⊢
    obtain ⟨a, cap, e, hl, he, hg, b, o, ha, hb, hv⟩ := hv
    exact ⟨a, cap, e, hl, he, hg, b, o, ha, hb, RepRows.cut R hg hv⟩
  | .hsl b e off len, r, hr, hv => by
    simp only [RepV, refsLt, decide_eq_true_eq] at hv hr ⊢
    obtain ⟨hb, a, cap, e1, hL⟩ := hv
    refine ⟨hr, a, cap, e1, fun L hL' => ?_⟩
    unfold Tie.cut at hL'
    simp only at hL'
    rw [if_pos hr] at hL'
    exact hL L hL'
  | .ptr b off, r, hr, hv => by
    simp only [RepV, refsLt, decide_eq_true_eq] at hv hr ⊢
    exact ⟨hr, hv.2⟩
  | .rptr b e i off, r, hr, hv => by
    simp only [RepV, refsLt, decide_eq_true_eq] at hv hr ⊢
    obtain ⟨hb, a, e1, hL⟩ := hv
    refine ⟨hr, a, e1, fun L hL' => ?_⟩
    unfold Tie.cut at hL'
    simp only at hL'
    rw [if_pos hr] at hL'
    exact hL L hL'
  | .eptr cs off, r, _, hv => by
    simp only [RepV] at hv ⊢
    obtain ⟨b, o, e, hg, hv⟩ := hv
    exact ⟨b, o, e, hg, RepF.cut R hg hv⟩
  | .fn f a c, r, hr, hv => by
    simp only [RepV, refsLt, Bool.and_eq_true] at hv hr ⊢
    obtain ⟨ra, rc, e, h1, h2⟩ := hv
    exact ⟨ra, rc, e, RepL.cut R hr.1 h1, RepL.cut R hr.2 h2⟩
  | .ifc t v, r, hr, hv => by
    simp only [RepV, refsLt] at hv hr ⊢
    obtain ⟨rv, e, hv⟩ := hv
    exact ⟨rv, e, RepV.cut R hr hv⟩
  | .mp b, r, hr, hv => by
    simp only [RepV, refsLt, decide_eq_true_eq] at hv hr ⊢
    exact ⟨hr, hv.2⟩
theorem RepL.cut (R : Rel G h w) : ∀ {v : List V} {r : List Value}, refsLts base v = true → RepL G v r → RepL (G.cut h w base) v r
  | [], r, _, hv => by simpa [RepL] using hv
  | c :: cs, r, hr, hv => by
    simp only [RepL, refsLts, Bool.and_eq_true] at hv hr ⊢
    obtain ⟨a, rest, e, h1, h2⟩ := hv
    exact ⟨a, rest, e, RepV.cut R hr.1 h1, RepL.cut R hr.2 h2⟩
theorem RepF.cut (R : Rel G h w) : ∀ {b o : Nat} {v : List V}, v.all ground = true → RepF G b o v → RepF (G.cut h w base) b o v
  | _, _, [], _, _ => by simp [RepF]
  | b, o, c :: cs, hg, hv => by
    simp only [RepF, List.all_cons, Bool.and_eq_true] at hv hg ⊢
    obtain ⟨⟨v, h1, h2⟩, h3⟩ := hv
    exact ⟨⟨v, cut_fz R h1, RepV.cut R (ground_refs hg.1) h2⟩, RepF.cut R hg.2 h3⟩
theorem RepRows.cut (R : Rel G h w) : ∀ {sz b o : Nat} {v : List (List V)}, (v.all fun l => l.all ground) = true → RepRows G sz b o v → RepRows (G.cut h w base) sz b o v
  | _, _, _, [], _, _ => by simp [RepRows]
  | sz, b, o, c :: cs, hg, hv => by
    simp only [RepRows, List.all_cons, Bool.and_eq_true] at hv hg ⊢
    exact ⟨hv.1, RepF.cut R hg.1 hv.2.1, RepRows.cut R hg.2 hv.2.2⟩
end

theorem Rel.cut (R : Rel G h w) (ho : HeapOk base h) (hb : base ≤ h.length) : Rel (G.cut h w base) (h.take base) w := by
  have hget : ∀ b, b < base → (h.take base)[b]? = h[b]? := fun b hb => List.getElem?_take_of_lt hb
  have hnone : ∀ b, base ≤ b → (h.take base)[b]? = none := fun b hb => List.getElem?_eq_none (by simp; omega)
  have hreal : ∀ b k, (G.cut h w base).real (h.take base) b = some k → b < base ∧ G.real h b = some k := by
    intro b k hk
    rcases Nat.lt_or_ge b base with hl | hl
    · refine ⟨hl, ?_⟩
      unfold Tie.real at hk ⊢
      rw [hget b hl] at hk
      simp only [Tie.cut, if_pos hl] at hk
      exact hk
    · unfold Tie.real at hk
      rw [hnone b hl] at hk
      simp at hk
  refine ⟨by simp [Tie.cut]; omega, ?_, ?_, ?_, ?_, ?_, R.hb0⟩
  · intro k o v hv
    unfold Tie.cut at hv
    simp only at hv
    split at hv
    · exact R.fz k o v hv
    · exact hv
  · intro b t cs e
    rcases Nat.lt_or_ge b base with hl | hl
    · rw [hget b hl] at e
      obtain ⟨h1, rs, h2, h3⟩ := R.box b t cs e
      exact ⟨h1, rs, h2, h3.cut R ((ho b hl).1 _ cs e)⟩
    · rw [hnone b hl] at e
      simp at e
  · intro b t sz e rows eq
    rcases Nat.lt_or_ge b base with hl | hl
    · rw [hget b hl] at eq
      obtain ⟨h0, L, rs, h1, h2, h3, h4, h5, h6, h7⟩ := R.row b t sz e rows eq
      refine ⟨h0, L, rs, by simp only [Tie.cut, if_pos hl]; exact h1, h2, h3, h4, h5, h6, fun i cs hi => ?_⟩
      obtain ⟨q1, q2, q3⟩ := h7 i cs hi
      refine ⟨q1, q2, fun j c hj => ?_⟩
      obtain ⟨v, q4, q5⟩ := q3 j c hj
      have := (ho b hl).2 _ _ _ _ eq cs (List.mem_of_getElem? hi)
      exact ⟨v, q4, q5.cut R (refsLts_all.1 this c (List.mem_of_getElem? hj))⟩
    · rw [hnone b hl] at eq
      simp at eq
  · intro b k hk
    obtain ⟨hl, hk⟩ := hreal b k hk
    refine ⟨(R.low b k hk).1, fun o => ?_⟩
    unfold Tie.cut
    simp only
    rw [if_pos ⟨b, hl, hk⟩]
    exact (R.low b k hk).2 o
  · intro b b' k h1 h2
    exact R.inj b b' k (hreal b k h1).2 (hreal b' k h2).2

theorem Ext.cut {G0 : Tie} (x : Ext G0 G) (R : Rel G h w) (hn : G0.n = base) : Ext G0 (G.cut h w base) where
  fz b o v hv := cut_fz R (x.fz b o v hv)
  n := by simp [Tie.cut, hn]
  bx b hb := x.bx b hb
  rw b hb L hL := by
    unfold Tie.cut at hL
    simp only at hL
    rw [if_pos (by omega)] at hL
    exact x.rw b hb L hL
  b0 := x.b0

/-- A row that is never written again. -/
theorem freezeRow (R : Rel G h w) {b e off len sz : Nat} {rs rs' : List (List V)} {r : Value} (hb : base ≤ b) (hr : rowAt h b e = some (sz, rs)) (hl : off + len ≤ rs.length) (hlen : rs'.length = rs.length) (hg : (rs'.all fun l => l.all ground) = true)
    (hv : RepV G (.hsl b e off len) r) (hc : ∀ (i : Nat) (cs cs' : List V), rs[i]? = some cs → rs'[i]? = some cs' → cs'.length = cs.length ∧ ∀ (j : Nat) (c c' : V) (v : Value), cs[j]? = some c → cs'[j]? = some c' → RepV G c v → RepV (G.cut h w base) c' v) :
    RepV (G.cut h w base) (.slc .any sz ((rs'.drop off).take len)) r := by
  obtain ⟨ty, eq, hpos, L, cells, hL, hLe, hLs, hcp, hw, hsz, hB⟩ := R.rowAt hr
  simp only [RepV] at hv
  obtain ⟨hbn, a, cap, rfl, hLx⟩ := hv
  obtain ⟨_, h2⟩ := hLx L hL
  obtain ⟨hlc, hoc, haa⟩ := h2 hLe.symm
  have hreal : G.real h b = some L.blk := by unfold Tie.real; rw [eq]; simp [hL]
  have hlen' : ((rs'.drop off).take len).length = len := by simp; omega
  simp only [RepV]
  refine ⟨some a, cap, by rw [hlen'], by rw [hlen']; exact hlc, by simp [Cp.isFull], ?_, L.blk, off * sz, ?_, by simp, RepRows.of_get fun i cs' hi => ?_⟩
  · rw [List.all_eq_true] at hg ⊢
    exact fun y hy => hg y (List.mem_of_mem_drop (List.mem_of_mem_take hy))
  · intro hne
    have : 0 < len := by
      rcases Nat.eq_zero_or_pos len with e0 | e0
      · subst e0; simp at hne
      · exact e0
    rw [haa (by omega), hLs]
  · rw [List.getElem?_take] at hi
    split at hi
    · rename_i hil
      rw [List.getElem?_drop] at hi
      have hcs : rs[off + i]? = some (rs[off + i]'(by omega)) := List.getElem?_eq_getElem (by omega)
      obtain ⟨h3, _, h4⟩ := hB _ _ hcs
      obtain ⟨h5, h6⟩ := hc _ _ _ hcs hi
      refine ⟨by rw [h5, h3], RepF.of_get fun j c' hj => ?_⟩
      have hjl := (List.getElem?_eq_some_iff.1 hj).1
      have hcj : (rs[off + i]'(by omega))[j]? = some ((rs[off + i]'(by omega))[j]'(by omega)) := List.getElem?_eq_getElem (by omega)
      obtain ⟨v, h7, h8⟩ := h4 j _ hcj
      refine ⟨v, ?_, h6 j _ _ v hcj hj h8⟩
      rw [cut_free R hb hreal, cell_of_heap hw, ← h7]
      congr 1
      rw [Nat.add_mul]
    · simp at hi

theorem freeze_rep (R : Rel G h w) : ∀ (k : Nat),
    (∀ {v v' : V} {r : Value}, freezeV h base k v = some v' → RepV G v r → RepV (G.cut h w base) v' r) ∧
    (∀ {vs vs' : List V} {rs : List Value}, freezeVs h base k vs = some vs' → RepL G vs rs → RepL (G.cut h w base) vs' rs) ∧
    (∀ {vs vs' : List V}, freezeVs h base k vs = some vs' → vs'.length = vs.length ∧ ∀ (j : Nat) (c c' : V) (v : Value), vs[j]? = some c → vs'[j]? = some c' → RepV G c v → RepV (G.cut h w base) c' v) ∧
    (∀ {rows rows' : List (List V)}, freezeRows h base k rows = some rows' → rows'.length = rows.length ∧ ∀ (i : Nat) (cs cs' : List V), rows[i]? = some cs → rows'[i]? = some cs' → cs'.length = cs.length ∧
      ∀ (j : Nat) (c c' : V) (v : Value), cs[j]? = some c → cs'[j]? = some c' → RepV G c v → RepV (G.cut h w base) c' v) := by
  intro k
  induction k with
  | zero => 
    refine ⟨fun e => ?_, fun e => ?_, fun e => ?_, fun e => ?_⟩
    · simp [freezeV] at e
    · simp [freezeVs] at e
    · simp [freezeVs] at e
    · simp [freezeRows] at e
  | succ k ih =>
    obtain ⟨ih1, ih2, ih3, ih4⟩ := ih
    refine ⟨fun {v v' r} e hv => ?_, fun {vs vs' rs} e hv => ?_, fun {vs vs'} e => ?_, fun {rows rows'} e => ?_⟩
    · cases v <;> simp only [freezeV] at e
      case undef => injection e with e; subst e; simp [RepV]
      case sc v => injection e with e; subst e; exact hv.cut R (by simp [refsLt])
      case slc => injection e with e; subst e; exact hv.cut R (by simp [refsLt])
      case eptr => injection e with e; subst e; exact hv.cut R (by simp [refsLt])
      case agg cs =>
        simp only [Option.map_eq_some_iff] at e
        obtain ⟨cs', h1, rfl⟩ := e
        simp only [RepV] at hv ⊢
        obtain ⟨rs, e, hv⟩ := hv
        exact ⟨rs, e, ih2 h1 hv⟩
      case tup cs =>
        simp only [Option.map_eq_some_iff] at e
        obtain ⟨cs', h1, rfl⟩ := e
        simp only [RepV] at hv ⊢
        obtain ⟨rs, e, hv⟩ := hv
        exact ⟨rs, e, ih2 h1 hv⟩
      case hsl b ep off len =>
        split at e
        · rename_i hb
          injection e with e; subst e
          exact hv.cut R (by simpa [refsLt] using hb)
        · rename_i hb
          split at e
          · rename_i sz rs hr
            split at e
            · rename_i hl
              split at e
              · rename_i hg
                injection e with e; subst e
                refine freezeRow R (by omega) hr hl rfl hg hv fun i cs cs' h1 h2 => ?_
                rw [h1] at h2
                injection h2 with h2
                subst h2
                refine ⟨rfl, fun j c c' v h3 h4 h5 => ?_⟩
                rw [h3] at h4
                injection h4 with h4
                subst h4
                rw [List.all_eq_true] at hg
                have := hg cs (List.mem_of_getElem? h1)
                rw [List.all_eq_true] at this
                exact h5.cut R (ground_refs (this c (List.mem_of_getElem? h3)))
              · simp only [Option.bind_eq_some_iff] at e
                obtain ⟨rs', h1, e⟩ := e
                split at e
                · rename_i hg
                  injection e with e; subst e
                  obtain ⟨h2, h3⟩ := ih4 h1
                  exact freezeRow R (by omega) hr hl h2 hg hv h3
                · simp at e
            · simp at e
          · simp at e
      case ptr b o =>
        split at e
        · rename_i hb
          injection e with e; subst e
          exact hv.cut R (by simpa [refsLt] using hb)
        · simp at e
      case rptr b ep i o =>
        split at e
        · rename_i hb
          injection e with e; subst e
          exact hv.cut R (by simpa [refsLt] using hb)
        · simp at e
      case mp b =>
        split at e
        · rename_i hb
          injection e with e; subst e
          exact hv.cut R (by simpa [refsLt] using hb)
        · simp at e
      case fn f a c =>
        split at e
        · rename_i hb
          injection e with e; subst e
          exact hv.cut R (by simpa [refsLt] using hb)
        · simp at e
      case ifc t v =>
        split at e
        · rename_i hb
          injection e with e; subst e
          exact hv.cut R (by simpa [refsLt] using hb)
        · simp at e
    · cases vs with
      | nil =>
        simp only [freezeVs, Option.some.injEq] at e
        subst e
        simpa [RepL] using hv
      | cons c cs =>
        simp only [freezeVs, Option.bind_eq_some_iff, Option.map_eq_some_iff] at e
        obtain ⟨c', h1, cs', h2, rfl⟩ := e
        simp only [RepL] at hv ⊢
        obtain ⟨a, rest, e, h3, h4⟩ := hv
        exact ⟨a, rest, e, ih1 h1 h3, ih2 h2 h4⟩
    · cases vs with
      | nil =>
        simp only [freezeVs, Option.some.injEq] at e
        subst e
        exact ⟨rfl, fun j c c' v h1 => by simp at h1⟩
      | cons c cs =>
        simp only [freezeVs, Option.bind_eq_some_iff, Option.map_eq_some_iff] at e
        obtain ⟨c', h1, cs', h2, rfl⟩ := e
        obtain ⟨h3, h4⟩ := ih3 h2
        refine ⟨by simp [h3], fun j d d' v e1 e2 hv => ?_⟩
        cases j with
        | zero =>
          simp at e1 e2
          subst e1; subst e2
          exact ih1 h1 hv
        | succ j => exact h4 j d d' v (by simpa using e1) (by simpa using e2) hv
    · cases rows with
      | nil =>
        simp only [freezeRows, Option.some.injEq] at e
        subst e
        exact ⟨rfl, fun i cs cs' h1 => by simp at h1⟩
      | cons c cs =>
        simp only [freezeRows, Option.bind_eq_some_iff, Option.map_eq_some_iff] at e
        obtain ⟨c', h1, cs', h2, rfl⟩ := e
        obtain ⟨h3, h4⟩ := ih4 h2
        refine ⟨by simp [h3], fun i d d' e1 e2 => ?_⟩
        cases i with
        | zero =>
          simp at e1 e2
          subst e1; subst e2
          exact ih3 h1
        | succ i => exact h4 i d d' (by simpa using e1) (by simpa using e2)

end
end Go.Am
