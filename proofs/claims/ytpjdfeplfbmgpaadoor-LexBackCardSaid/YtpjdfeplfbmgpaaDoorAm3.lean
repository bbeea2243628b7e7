/- The abstract machine and what is proved in it, part 3. -/
import Derived.Test.YtpjdfeplfbmgpaaDoorAm2
import Derived.Lib.MakeNoZero
import Derived.Laws.Externs
import Derived.Lib.BytesEntry
section
/- Am: a call, whole: its frame, what it hands back, and what becomes of its own memory. -/
namespace Go.Am
open Go.RowKit (Below)

/-- Memory behind a call that keeps nothing: its own blocks are never written again. -/
noncomputable def Tie.cut (G : Tie) (h : Heap) (w : World) (base : Nat) : Tie :=
  open Classical in
  { fz := fun k o => if ∃ b, b < base ∧ G.real h b = some k then G.fz k o else w.cell? ⟨k, o, none⟩
    n := base
    bx := G.bx
    rw := fun b => if b < base then G.rw b else none
    b0 := G.b0 }

theorem cut_fz {G : Tie} {h : Heap} {w : World} (R : Rel G h w) {base k o : Nat} {v : Value} (hv : G.fz k o = some v) : (G.cut h w base).fz k o = some v := by
  unfold Tie.cut
  simp only
  split
  · exact hv
  · exact R.fz k o v hv

theorem cut_free {G : Tie} {h : Heap} {w : World} (R : Rel G h w) {base k o b : Nat} (hb : base ≤ b) (hk : G.real h b = some k) : (G.cut h w base).fz k o = w.cell? ⟨k, o, none⟩ := by
  unfold Tie.cut
  simp only
  rw [if_neg]
  rintro ⟨b', hb', hk'⟩
  have := R.inj b' b k hk' hk
  omega

theorem ground_refs {n : Nat} {v : V} (h : ground v = true) : refsLt n v = true := by
  cases v <;> simp_all [ground, refsLt]

theorem ground_all {n : Nat} {l : List V} (h : l.all ground = true) : refsLts n l = true := by
  rw [refsLts_all]
  rw [List.all_eq_true] at h
  exact fun v hv => ground_refs (h v hv)

section
variable {G : Tie} {h : Heap} {w : World} {base : Nat}

mutual
theorem RepV.cut (R : Rel G h w) : ∀ {v : V} {r : Value}, refsLt base v = true → RepV G v r → RepV (G.cut h w base) v r
  | .undef, _, _, _ => by simp [RepV]
  | .sc v, r, _, hv => by simpa [RepV] using hv
  | .agg cs, r, hr, hv => by
    simp only [RepV, refsLt] at hv hr ⊢
    obtain ⟨rs, e, hv⟩ := hv
    exact ⟨rs, e, RepL.cut R hr hv⟩
  | .tup cs, r, hr, hv => by
    simp only [RepV, refsLt] at hv hr ⊢
    obtain ⟨rs, e, hv⟩ := hv
    exact ⟨rs, e, RepL.cut R hr hv⟩
  | .slc ex sz rows, r, _, hv => by
    simp only [RepV] at hv ⊢
    obtain ⟨a, cap, e, hl, he, hg, b, o, ha, hb, hv⟩ := hv
    exact ⟨a, cap, e, hl, he, hg, b, o, ha, hb, RepRows.cut R hg hv⟩
  | .hsl b e off len, r, hr, hv => by
    simp only [RepV, refsLt, decide_eq_true_eq] at hv hr ⊢
    obtain ⟨hb, a, cap, e1, hL⟩ := hv
    refine ⟨hr, a, cap, e1, fun L hL' => ?_⟩
    unfold Tie.cut at hL'
    simp only at hL'
    rw [if_pos hr] at hL'
    exact hL L hL'
  | .ptr b off, r, hr, hv => by
    simp only [RepV, refsLt, decide_eq_true_eq] at hv hr ⊢
    exact ⟨hr, hv.2⟩
  | .rptr b e i off, r, hr, hv => by
    simp only [RepV, refsLt, decide_eq_true_eq] at hv hr ⊢
    obtain ⟨hb, a, e1, hL⟩ := hv
    refine ⟨hr, a, e1, fun L hL' => ?_⟩
    unfold Tie.cut at hL'
    simp only at hL'
    rw [if_pos hr] at hL'
    exact hL L hL'
  | .eptr cs off, r, _, hv => by
    simp only [RepV] at hv ⊢
    obtain ⟨b, o, e, hg, hv⟩ := hv
    exact ⟨b, o, e, hg, RepF.cut R hg hv⟩
  | .fn f a c, r, hr, hv => by
    simp only [RepV, refsLt, Bool.and_eq_true] at hv hr ⊢
    obtain ⟨ra, rc, e, h1, h2⟩ := hv
    exact ⟨ra, rc, e, RepL.cut R hr.1 h1, RepL.cut R hr.2 h2⟩
  | .ifc t v, r, hr, hv => by
    simp only [RepV, refsLt] at hv hr ⊢
    obtain ⟨rv, e, hv⟩ := hv
    exact ⟨rv, e, RepV.cut R hr hv⟩
  | .mp b, r, hr, hv => by
    simp only [RepV, refsLt, decide_eq_true_eq] at hv hr ⊢
    exact ⟨hr, hv.2⟩
  | .opq, r, hr, hv => by
    simp only [RepV] at hv ⊢
    exact hv
theorem RepL.cut (R : Rel G h w) : ∀ {v : List V} {r : List Value}, refsLts base v = true → RepL G v r → RepL (G.cut h w base) v r
  | [], r, _, hv => by simpa [RepL] using hv
  | c :: cs, r, hr, hv => by
    simp only [RepL, refsLts, Bool.and_eq_true] at hv hr ⊢
    obtain ⟨a, rest, e, h1, h2⟩ := hv
    exact ⟨a, rest, e, RepV.cut R hr.1 h1, RepL.cut R hr.2 h2⟩
theorem RepF.cut (R : Rel G h w) : ∀ {b o : Nat} {v : List V}, v.all ground = true → RepF G b o v → RepF (G.cut h w base) b o v
  | _, _, [], _, _ => by simp [RepF]
  | b, o, c :: cs, hg, hv => by
    simp only [RepF, List.all_cons, Bool.and_eq_true] at hv hg ⊢
    obtain ⟨⟨v, h1, h2⟩, h3⟩ := hv
    exact ⟨⟨v, cut_fz R h1, RepV.cut R (ground_refs hg.1) h2⟩, RepF.cut R hg.2 h3⟩
theorem RepRows.cut (R : Rel G h w) : ∀ {sz b o : Nat} {v : List (List V)}, (v.all fun l => l.all ground) = true → RepRows G sz b o v → RepRows (G.cut h w base) sz b o v
  | _, _, _, [], _, _ => by simp [RepRows]
  | sz, b, o, c :: cs, hg, hv => by
    simp only [RepRows, List.all_cons, Bool.and_eq_true] at hv hg ⊢
    exact ⟨hv.1, RepF.cut R hg.1 hv.2.1, RepRows.cut R hg.2 hv.2.2⟩
end

theorem RepM.cut (R : Rel G h w) : ∀ {es : List (Value × V)} {l : List MapEntry}, (∀ e ∈ es, refsLt base e.2 = true) → RepM G es l → RepM (G.cut h w base) es l
  | [], l, _, hv => hv
  | e :: es, l, hg, hv => by
    simp only [RepM] at hv ⊢
    obtain ⟨y, r, e1, h1, h2, h3⟩ := hv
    exact ⟨y, r, e1, h1, h2.cut R (hg e (by simp)), RepM.cut R (fun e he => hg e (by simp [he])) h3⟩

theorem Rel.cut (R : Rel G h w) (ho : HeapOk base h) (hb : base ≤ h.length) : Rel (G.cut h w base) (h.take base) w := by
  have hget : ∀ b, b < base → (h.take base)[b]? = h[b]? := fun b hb => List.getElem?_take_of_lt hb
  have hnone : ∀ b, base ≤ b → (h.take base)[b]? = none := fun b hb => List.getElem?_eq_none (by simp; omega)
  have hreal : ∀ b k, (G.cut h w base).real (h.take base) b = some k → b < base ∧ G.real h b = some k := by
    intro b k hk
    rcases Nat.lt_or_ge b base with hl | hl
    · refine ⟨hl, ?_⟩
      unfold Tie.real at hk ⊢
      rw [hget b hl] at hk
      simp only [Tie.cut, if_pos hl] at hk
      exact hk
    · unfold Tie.real at hk
      rw [hnone b hl] at hk
      simp at hk
  refine ⟨by simp [Tie.cut]; omega, ?_, ?_, ?_, ?_, ?_, ?_, R.hb0⟩
  · intro k o v hv
    unfold Tie.cut at hv
    simp only at hv
    split at hv
    · exact R.fz k o v hv
    · exact hv
  · intro b t cs e
    rcases Nat.lt_or_ge b base with hl | hl
    · rw [hget b hl] at e
      obtain ⟨h1, rs, h2, h3⟩ := R.box b t cs e
      exact ⟨h1, rs, h2, h3.cut R ((ho b hl).1 _ cs e)⟩
    · rw [hnone b hl] at e
      simp at e
  · intro b t sz e rows eq
    rcases Nat.lt_or_ge b base with hl | hl
    · rw [hget b hl] at eq
      obtain ⟨h0, L, rs, h1, h2, h3, h4, h5, h6, h7⟩ := R.row b t sz e rows eq
      refine ⟨h0, L, rs, by simp only [Tie.cut, if_pos hl]; exact h1, h2, h3, h4, h5, h6, fun i cs hi => ?_⟩
      obtain ⟨q1, q2, q3⟩ := h7 i cs hi
      refine ⟨q1, q2, fun j c hj => ?_⟩
      obtain ⟨v, q4, q5⟩ := q3 j c hj
      have := (ho b hl).2.1 _ _ _ _ eq cs (List.mem_of_getElem? hi)
      exact ⟨v, q4, q5.cut R (refsLts_all.1 this c (List.mem_of_getElem? hj))⟩
    · rw [hnone b hl] at eq
      simp at eq
  · intro b es e
    rcases Nat.lt_or_ge b base with hl | hl
    · rw [hget b hl] at e
      obtain ⟨l, clock, h1, h2⟩ := R.mp b es e
      exact ⟨l, clock, h1, RepM.cut R ((ho b hl).2.2 es e) h2⟩
    · rw [hnone b hl] at e
      simp at e
  · intro b k hk
    obtain ⟨hl, hk⟩ := hreal b k hk
    refine ⟨(R.low b k hk).1, fun o => ?_⟩
    unfold Tie.cut
    simp only
    rw [if_pos ⟨b, hl, hk⟩]
    exact (R.low b k hk).2 o
  · intro b b' k h1 h2
    exact R.inj b b' k (hreal b k h1).2 (hreal b' k h2).2

theorem Ext.cut {G0 : Tie} (x : Ext G0 G) (R : Rel G h w) (hn : G0.n = base) : Ext G0 (G.cut h w base) where
  fz b o v hv := cut_fz R (x.fz b o v hv)
  n := by simp [Tie.cut, hn]
  bx b hb := x.bx b hb
  rw b hb L hL := by
    unfold Tie.cut at hL
    simp only at hL
    rw [if_pos (by omega)] at hL
    exact x.rw b hb L hL
  b0 := x.b0

/-- A row that is never written again. -/
theorem freezeRow (R : Rel G h w) {b e off len sz : Nat} {rs rs' : List (List V)} {r : Value} (hb : base ≤ b) (hr : rowAt h b e = some (sz, rs)) (hl : off + len ≤ rs.length) (hlen : rs'.length = rs.length) (hg : (rs'.all fun l => l.all ground) = true)
    (hv : RepV G (.hsl b e off len) r) (hc : ∀ (i : Nat) (cs cs' : List V), rs[i]? = some cs → rs'[i]? = some cs' → cs'.length = cs.length ∧ ∀ (j : Nat) (c c' : V) (v : Value), cs[j]? = some c → cs'[j]? = some c' → RepV G c v → RepV (G.cut h w base) c' v) :
    RepV (G.cut h w base) (.slc .any sz ((rs'.drop off).take len)) r := by
  obtain ⟨ty, eq, hpos, L, cells, hL, hLe, hLs, hcp, hw, hsz, hB⟩ := R.rowAt hr
  simp only [RepV] at hv
  obtain ⟨hbn, a, cap, rfl, hLx⟩ := hv
  obtain ⟨_, h2⟩ := hLx L hL
  obtain ⟨hlc, hoc, haa⟩ := h2 hLe.symm
  have hreal : G.real h b = some L.blk := by unfold Tie.real; rw [eq]; simp [hL]
  have hlen' : ((rs'.drop off).take len).length = len := by simp; omega
  simp only [RepV]
  refine ⟨some a, cap, by rw [hlen'], by rw [hlen']; exact hlc, by simp [Cp.isFull], ?_, L.blk, off * sz, ?_, by simp, RepRows.of_get fun i cs' hi => ?_⟩
  · rw [List.all_eq_true] at hg ⊢
    exact fun y hy => hg y (List.mem_of_mem_drop (List.mem_of_mem_take hy))
  · intro hne
    have : 0 < len := by
      rcases Nat.eq_zero_or_pos len with e0 | e0
      · subst e0; simp at hne
      · exact e0
    rw [haa (by omega), hLs]
  · rw [List.getElem?_take] at hi
    split at hi
    · rename_i hil
      rw [List.getElem?_drop] at hi
      have hcs : rs[off + i]? = some (rs[off + i]'(by omega)) := List.getElem?_eq_getElem (by omega)
      obtain ⟨h3, _, h4⟩ := hB _ _ hcs
      obtain ⟨h5, h6⟩ := hc _ _ _ hcs hi
      refine ⟨by rw [h5, h3], RepF.of_get fun j c' hj => ?_⟩
      have hjl := (List.getElem?_eq_some_iff.1 hj).1
      have hcj : (rs[off + i]'(by omega))[j]? = some ((rs[off + i]'(by omega))[j]'(by omega)) := List.getElem?_eq_getElem (by omega)
      obtain ⟨v, h7, h8⟩ := h4 j _ hcj
      refine ⟨v, ?_, h6 j _ _ v hcj hj h8⟩
      rw [cut_free R hb hreal, cell_of_heap hw, ← h7]
      congr 1
      rw [Nat.add_mul]
    · simp at hi

theorem freeze_rep (R : Rel G h w) : ∀ (k : Nat),
    (∀ {v v' : V} {r : Value}, freezeV h base k v = some v' → RepV G v r → RepV (G.cut h w base) v' r) ∧
    (∀ {vs vs' : List V} {rs : List Value}, freezeVs h base k vs = some vs' → RepL G vs rs → RepL (G.cut h w base) vs' rs) ∧
    (∀ {vs vs' : List V}, freezeVs h base k vs = some vs' → vs'.length = vs.length ∧ ∀ (j : Nat) (c c' : V) (v : Value), vs[j]? = some c → vs'[j]? = some c' → RepV G c v → RepV (G.cut h w base) c' v) ∧
    (∀ {rows rows' : List (List V)}, freezeRows h base k rows = some rows' → rows'.length = rows.length ∧ ∀ (i : Nat) (cs cs' : List V), rows[i]? = some cs → rows'[i]? = some cs' → cs'.length = cs.length ∧
      ∀ (j : Nat) (c c' : V) (v : Value), cs[j]? = some c → cs'[j]? = some c' → RepV G c v → RepV (G.cut h w base) c' v) := by
  intro k
  induction k with
  | zero => 
    refine ⟨fun e => ?_, fun e => ?_, fun e => ?_, fun e => ?_⟩
    · simp [freezeV] at e
    · simp [freezeVs] at e
    · simp [freezeVs] at e
    · simp [freezeRows] at e
  | succ k ih =>
    obtain ⟨ih1, ih2, ih3, ih4⟩ := ih
    refine ⟨fun {v v' r} e hv => ?_, fun {vs vs' rs} e hv => ?_, fun {vs vs'} e => ?_, fun {rows rows'} e => ?_⟩
    · cases v <;> simp only [freezeV] at e
      case undef => injection e with e; subst e; simp [RepV]
      case opq => injection e with e; subst e; simpa [RepV] using hv
      case sc v => injection e with e; subst e; exact hv.cut R (by simp [refsLt])
      case slc => injection e with e; subst e; exact hv.cut R (by simp [refsLt])
      case eptr => injection e with e; subst e; exact hv.cut R (by simp [refsLt])
      case agg cs =>
        simp only [Option.map_eq_some_iff] at e
        obtain ⟨cs', h1, rfl⟩ := e
        simp only [RepV] at hv ⊢
        obtain ⟨rs, e, hv⟩ := hv
        exact ⟨rs, e, ih2 h1 hv⟩
      case tup cs =>
        simp only [Option.map_eq_some_iff] at e
        obtain ⟨cs', h1, rfl⟩ := e
        simp only [RepV] at hv ⊢
        obtain ⟨rs, e, hv⟩ := hv
        exact ⟨rs, e, ih2 h1 hv⟩
      case hsl b ep off len =>
        split at e
        · rename_i hb
          injection e with e; subst e
          exact hv.cut R (by simpa [refsLt] using hb)
        · rename_i hb
          split at e
          · rename_i sz rs hr
            split at e
            · rename_i hl
              split at e
              · rename_i hg
                injection e with e; subst e
                refine freezeRow R (by omega) hr hl rfl hg hv fun i cs cs' h1 h2 => ?_
                rw [h1] at h2
                injection h2 with h2
                subst h2
                refine ⟨rfl, fun j c c' v h3 h4 h5 => ?_⟩
                rw [h3] at h4
                injection h4 with h4
                subst h4
                rw [List.all_eq_true] at hg
                have := hg cs (List.mem_of_getElem? h1)
                rw [List.all_eq_true] at this
                exact h5.cut R (ground_refs (this c (List.mem_of_getElem? h3)))
              · simp only [Option.bind_eq_some_iff] at e
                obtain ⟨rs', h1, e⟩ := e
                split at e
                · rename_i hg
                  injection e with e; subst e
                  obtain ⟨h2, h3⟩ := ih4 h1
                  exact freezeRow R (by omega) hr hl h2 hg hv h3
                · simp at e
            · simp at e
          · simp at e
      case ptr b o =>
        split at e
        · rename_i hb
          injection e with e; subst e
          exact hv.cut R (by simpa [refsLt] using hb)
        · simp at e
      case rptr b ep i o =>
        split at e
        · rename_i hb
          injection e with e; subst e
          exact hv.cut R (by simpa [refsLt] using hb)
        · simp at e
      case mp b =>
        split at e
        · rename_i hb
          injection e with e; subst e
          exact hv.cut R (by simpa [refsLt] using hb)
        · simp at e
      case fn f a c =>
        split at e
        · rename_i hb
          injection e with e; subst e
          exact hv.cut R (by simpa [refsLt] using hb)
        · simp at e
      case ifc t v =>
        split at e
        · rename_i hb
          injection e with e; subst e
          exact hv.cut R (by simpa [refsLt] using hb)
        · simp at e
    · cases vs with
      | nil =>
        simp only [freezeVs, Option.some.injEq] at e
        subst e
        simpa [RepL] using hv
      | cons c cs =>
        simp only [freezeVs, Option.bind_eq_some_iff, Option.map_eq_some_iff] at e
        obtain ⟨c', h1, cs', h2, rfl⟩ := e
        simp only [RepL] at hv ⊢
        obtain ⟨a, rest, e, h3, h4⟩ := hv
        exact ⟨a, rest, e, ih1 h1 h3, ih2 h2 h4⟩
    · cases vs with
      | nil =>
        simp only [freezeVs, Option.some.injEq] at e
        subst e
        exact ⟨rfl, fun j c c' v h1 => by simp at h1⟩
      | cons c cs =>
        simp only [freezeVs, Option.bind_eq_some_iff, Option.map_eq_some_iff] at e
        obtain ⟨c', h1, cs', h2, rfl⟩ := e
        obtain ⟨h3, h4⟩ := ih3 h2
        refine ⟨by simp [h3], fun j d d' v e1 e2 hv => ?_⟩
        cases j with
        | zero =>
          simp at e1 e2
          subst e1; subst e2
          exact ih1 h1 hv
        | succ j => exact h4 j d d' v (by simpa using e1) (by simpa using e2) hv
    · cases rows with
      | nil =>
        simp only [freezeRows, Option.some.injEq] at e
        subst e
        exact ⟨rfl, fun i cs cs' h1 => by simp at h1⟩
      | cons c cs =>
        simp only [freezeRows, Option.bind_eq_some_iff, Option.map_eq_some_iff] at e
        obtain ⟨c', h1, cs', h2, rfl⟩ := e
        obtain ⟨h3, h4⟩ := ih4 h2
        refine ⟨by simp [h3], fun i d d' e1 e2 => ?_⟩
        cases i with
        | zero =>
          simp at e1 e2
          subst e1; subst e2
          exact ih3 h1
        | succ i => exact h4 i d d' (by simpa using e1) (by simpa using e2)

end
end Go.Am
end
section
/- Am: calls. -/
namespace Go.Am
open Go.RowKit (Below)

mutual
theorem RepV.refs {G : Tie} : ∀ {v : V} {r : Value}, RepV G v r → refsLt G.n v = true
  | .undef, _, _ => by simp [refsLt]
  | .opq, _, _ => by simp [refsLt]
  | .sc v, r, hv => by simp [refsLt]
  | .agg cs, r, hv => by
    simp only [RepV, refsLt] at hv ⊢
    obtain ⟨rs, e, hv⟩ := hv
    exact RepL.refs hv
  | .tup cs, r, hv => by
    simp only [RepV, refsLt] at hv ⊢
    obtain ⟨rs, e, hv⟩ := hv
    exact RepL.refs hv
  | .slc ex sz rows, r, _ => by simp [refsLt]
  | .hsl b e off len, r, hv => by
    simp only [RepV, refsLt, decide_eq_true_eq] at hv ⊢
    exact hv.1
  | .ptr b off, r, hv => by
    simp only [RepV, refsLt, decide_eq_true_eq] at hv ⊢
    exact hv.1
  | .rptr b e i off, r, hv => by
    simp only [RepV, refsLt, decide_eq_true_eq] at hv ⊢
    exact hv.1
  | .eptr cs off, r, _ => by simp [refsLt]
  | .fn f a c, r, hv => by
    simp only [RepV, refsLt, Bool.and_eq_true] at hv ⊢
    obtain ⟨ra, rc, e, h1, h2⟩ := hv
    exact ⟨RepL.refs h1, RepL.refs h2⟩
  | .ifc t v, r, hv => by
    simp only [RepV, refsLt] at hv ⊢
    obtain ⟨rv, e, hv⟩ := hv
    exact RepV.refs hv
  | .mp b, r, hv => by
    simp only [RepV, refsLt, decide_eq_true_eq] at hv ⊢
    exact hv.1
theorem RepL.refs {G : Tie} : ∀ {v : List V} {r : List Value}, RepL G v r → refsLts G.n v = true
  | [], r, _ => by simp [refsLts]
  | c :: cs, r, hv => by
    simp only [RepL, refsLts, Bool.and_eq_true] at hv ⊢
    obtain ⟨a, rest, e, h1, h2⟩ := hv
    exact ⟨RepV.refs h1, RepL.refs h2⟩
end

theorem Rel.heapOk {G : Tie} {h : Heap} {w : World} (R : Rel G h w) : HeapOk h.length h := by
  intro b hb
  refine ⟨fun t cs e => ?_, fun t sz e rows eq r hr => ?_, fun es eq e he => ?_⟩
  · obtain ⟨_, rs, _, h3⟩ := R.box b t cs e
    rw [← R.n]
    exact h3.refs
  · obtain ⟨_, L, rs, _, _, _, _, _, _, h7⟩ := R.row b t sz e rows eq
    obtain ⟨i, hi⟩ := List.getElem?_of_mem hr
    obtain ⟨_, _, h8⟩ := h7 i r hi
    rw [← R.n, refsLts_all]
    intro v hv
    obtain ⟨j, hj⟩ := List.getElem?_of_mem hv
    obtain ⟨u, _, h9⟩ := h8 j v hj
    exact h9.refs
  · obtain ⟨l, clock, _, h2⟩ := R.mp b es eq
    obtain ⟨y, _, _, hy⟩ := h2.mem he
    rw [← R.n]
    exact hy.refs

section
variable {P : Program} {gl : Nat → Option (List V)}

theorem res_run {G : Tie} {h : Heap} {en : Env} {a : Act} {w : World} {nt : Nat} (he : RepEnv G en a.tmps) (R : Rel G h w) : ∀ {rs : List ResultVar} {ars : List ARes} {vs : List V}, compRes P nt rs = some ars → evRess en h ars = some vs →
    ∃ rv : List Value, RepL G vs rv ∧ (rs.mapM (fun r => (match r with
      | .tmp t => pure (a.tmps.getD t undef)
      | .cell c t => do loadVar t (← asAddr (a.tmps.getD c undef)) : Sem Value))).run P w = .ok rv w
  | [], ars, vs, hc, hs => by
    simp only [compRes, Option.some.injEq] at hc
    subst hc
    simp only [evRess, Option.some.injEq] at hs
    subst hs
    exact ⟨[], by simp [RepL], by simp⟩
  | .tmp t :: rs, ars, vs, hc, hs => by
    simp only [compRes] at hc
    split at hc
    · simp only [Option.map_eq_some_iff] at hc
      obtain ⟨r, hr, rfl⟩ := hc
      simp only [evRess, evRes1, Option.bind_some, Option.map_eq_some_iff] at hs
      obtain ⟨us, hu, rfl⟩ := hs
      obtain ⟨rv, h1, h2⟩ := res_run he R hr hu
      refine ⟨_ :: rv, by simp only [RepL]; exact ⟨_, _, rfl, he t, h1⟩, ?_⟩
      rw [List.mapM_cons]
      simp only [Sem.run_bind, Sem.run_pure, Result.andThen_ok, h2]
    · simp at hc
  | .cell c t :: rs, ars, vs, hc, hs => by
    simp only [compRes, Option.bind_eq_some_iff] at hc
    obtain ⟨n, hn, hc⟩ := hc
    split at hc
    · simp only [Option.map_eq_some_iff] at hc
      obtain ⟨r, hr, rfl⟩ := hc
      simp only [evRess, evRes1, Option.bind_eq_some_iff, Option.map_eq_some_iff] at hs
      obtain ⟨v, hv, us, hu, rfl⟩ := hs
      obtain ⟨rv, h1, h2⟩ := res_run he R hr hu
      obtain ⟨rx, h3, h4⟩ := load_run (P := P) R hn (he c) hv
      refine ⟨rx :: rv, by simp only [RepL]; exact ⟨_, _, rfl, h4, h1⟩, ?_⟩
      have hload : (do loadVar t (← asAddr (a.tmps.getD c undef)) : Sem Value).run P w = .ok rx w := by
        rw [loadV_eq, Option.bind_eq_some_iff] at hv
        obtain ⟨⟨cs, off⟩, hp, _⟩ := hv
        obtain ⟨b, o, hptr, _⟩ := R.cells hp (he c)
        rw [hptr] at h3 ⊢
        exact h3
      rw [List.mapM_cons]
      simp only [Sem.run_bind] at hload ⊢
      rw [hload]
      simp only [Sem.run_pure, Result.andThen_ok, h2]
    · simp at hc

theorem results_run {G : Tie} {h : Heap} {en : Env} {a : Act} {w : World} {nt : Nat} {fn : Func} {ars : List ARes} {vs : List V} (he : RepEnv G en a.tmps) (R : Rel G h w) (hc : compRes P nt fn.results.toList = some ars) (hs : evRess en h ars = some vs) :
    ∃ r, (results fn a.tmps).run P w = .ok r w ∧ RepV G (oneOrTup vs) r := by
  obtain ⟨rv, h1, h2⟩ := res_run (P := P) he R hc hs
  refine ⟨if h : rv.toArray.size = 1 then rv.toArray[0] else .tuple rv.toArray, ?_, ?_⟩
  · unfold results
    rw [Array.mapM_eq_mapM_toList]
    rw [Sem.run_bind, Sem.run_map]
    erw [h2]
    rfl
  · have hl := h1.length
    unfold oneOrTup
    split
    · rename_i v
      simp only [RepL] at h1
      obtain ⟨r, rest, rfl, h3, rfl⟩ := h1
      simpa using h3
    · rename_i hne
      rw [dif_neg]
      · simp only [RepV]
        exact ⟨_, rfl, h1⟩
      · intro hsz
        simp only [List.size_toArray] at hsz
        rw [hl] at hsz
        match vs, hsz, hne with
        | [v], _, hne => exact hne v rfl
        | [], hsz, _ => simp at hsz
        | _ :: _ :: _, hsz, _ => simp at hsz

/-- A function's body is known. -/
structure FnOk (P : Program) (gl : Nat → Option (List V)) (quiet : FuncId → Nat) (f : FuncId) (A : AFunc) : Prop where
  fn : ∃ fn, P.funcs[f]? = some fn ∧ (fn.name == "runtime.NumGoroutine") = false ∧ compFunc P (glz A.frz A.bz A.br gl) quiet A.pure A.frz A.bz A.br fn = some A

theorem HeapOk.take {n m : Nat} {h : Heap} (ho : HeapOk n h) (hn : n ≤ m) : HeapOk n (h.take m) := by
  intro b hb
  have : (h.take m)[b]? = h[b]? := List.getElem?_take_of_lt (by omega)
  rw [this]
  exact ho b hb

theorem GlobOk.glz {G : Tie} {gl : Nat → Option (List V)} (h : GlobOk G gl) (z : Bool) (ts rs : List Nat) : GlobOk G (glz z ts rs gl) := by
  intro g cs e
  unfold Am.glz at e
  split at e
  · injection e with e
    subst e
    simp only [RepV]
    exact ⟨g, 0, rfl, by simp, by simp [RepF]⟩
  · exact h g cs e

theorem GlobOk.unglz {G : Tie} {gl : Nat → Option (List V)} {z : Bool} {ts rs : List Nat} (hz : ∀ g, lookNo ≤ g → gl g = none) (h : GlobOk G (Am.glz z ts rs gl)) : GlobOk G gl := by
  intro g cs e
  refine h g cs ?_
  unfold Am.glz
  rw [if_neg]
  · exact e
  · intro hc
    simp only [Bool.or_eq_true, Bool.and_eq_true, beq_iff_eq, List.any_eq_true] at hc
    have : lookNo ≤ g := by
      unfold rowNo at hc
      unfold lookNo at hc ⊢
      rcases hc with (hc | ⟨t, _, hc⟩) | ⟨t, _, hc⟩ <;> omega
    rw [hz g this] at e
    simp at e

theorem CallOk.glz {P : Program} {gl : Nat → Option (List V)} {call : CallF} (hz : ∀ g, lookNo ≤ g → gl g = none) (h : CallOk P gl call) (z : Bool) (ts rs : List Nat) : CallOk P (Am.glz z ts rs gl) call :=
  ⟨h.grow, fun base f args hh r h' hs hb G w vals hgl R hv => h.runs base f args hh r h' hs hb G w vals (hgl.unglz hz) R hv⟩

theorem func_grow {call : CallF} (hc : CallOk P gl call) {n base : Nat} {A : AFunc} {args : List V} {h h' : Heap} {v : V} (hb : base ≤ h.length) (hs : evFunc call n base A args h = some (v, h')) : Grow base h h' := by
  unfold evFunc at hs
  split at hs
  · simp only at hs
    split at hs
    · simp at hs
    · rename_i ex en h1 hno e1
      simp only [Option.bind_eq_some_iff] at hs
      obtain ⟨rs, _, hs⟩ := hs
      split at hs
      · rename_i hp
        simp only [hp, if_true] at e1
        have g := evC_grow hc (Nat.le_refl _) e1
        simp only [Option.map_eq_some_iff, Prod.mk.injEq] at hs
        obtain ⟨_, _, _, rfl⟩ := hs
        have g1 := g.1
        refine ⟨by simp; omega, fun m h1' h2 ho => ?_⟩
        exact (g.2 m h2 h2 ho).take h2
      · rename_i hp
        simp only [hp, Bool.false_eq_true, if_false] at e1
        injection hs with hs
        simp only [Prod.mk.injEq] at hs
        rw [← hs.2]
        exact evC_grow hc hb e1
    · simp at hs
  · simp at hs

theorem func_runs {quiet : FuncId → Nat} {call : CallF} (hq : QuietOk quiet call) (hc : CallOk P gl call) (hd : P.follows .mixedOrders = true) (hz : ∀ g, lookNo ≤ g → gl g = none) {n base : Nat} {f : FuncId} {A : AFunc} (hf : FnOk P gl quiet f A) {args : List V} {h h' : Heap} {r : V} (hb : base ≤ h.length)
    (hs : evFunc call n base A args h = some (r, h')) {G : Tie} {w : World} {vals : Array Value} (hgl : GlobOk G gl) (R : Rel G h w) (hv : RepL G args vals.toList) :
    CallsF P f vals w fun rv w' => ∃ G', Reach G w h' w' G' ∧ RepV G' r rv := by
  obtain ⟨fn, hfn, hname, hcf⟩ := hf.fn
  simp only [compFunc, Option.bind_eq_some_iff, Option.map_eq_some_iff] at hcf
  obtain ⟨c, hbody, ac, hac, ars, hars, hA⟩ := hcf
  replace hc := hc.glz hz A.frz A.bz A.br
  replace hgl := hgl.glz A.frz A.bz A.br
  unfold CallsF
  have henter : (callFunc f vals).run P w = .ok (.enter f vals) w := by
    have hname' : ¬ fn.name = "runtime.NumGoroutine" := by simpa using hname
    simp [callFunc, hfn, hname', hbody]
  rw [henter]
  simp only
  unfold evFunc at hs
  split at hs
  case isFalse => simp at hs
  rename_i hlen
  simp only at hs
  split at hs
  · simp at hs
  · rename_i ex en h1 hno e1
    simp only [Option.bind_eq_some_iff] at hs
    obtain ⟨rs, hres, hs⟩ := hs
    have hAb : A.body = ac := by rw [← hA]
    have hAr : A.results = ars := by rw [← hA]
    have hvl : vals.size = args.length := by rw [← Array.length_toList]; exact hv.length
    refine calls_of_wp hfn hbody ?_
    have he0 : RepEnv G (fun t => args.getD t .undef) (vals ++ Array.replicate (fn.ntmps - vals.size) undef) := by
      intro t
      by_cases ht : t < args.length
      · obtain ⟨rv, h2, h3⟩ := hv.get (i := t) (c := args[t]) (List.getElem?_eq_getElem ht)
        rw [Array.getElem?_toList] at h2
        have e2 : (vals ++ Array.replicate (fn.ntmps - vals.size) undef).getD t undef = rv := by
          have hlt : t < vals.size := by omega
          rw [Array.getElem?_eq_getElem hlt] at h2
          injection h2 with h2
          simp [Array.getD, hlt, h2]
          omega
        rw [e2]
        simpa [List.getD, ht] using h3
      · simp [List.getD, ht, RepV]
    have hcode : CodeOk P (glz A.frz A.bz A.br gl) (if A.pure then h.length else base) fn.ntmps c (fun en h0 => evC call (if A.pure then h.length else base) n A.body en h0) := by
      rw [hAb]
      exact code_wp hd hq hc hac
    refine hcode hgl he0 R (by split <;> omega) (by simp; omega) e1 fun a' w' G' hreach he' q1 q2 => ?_
    rw [hAr] at hres
    obtain ⟨rv, h2, h3⟩ := results_run (P := P) he' hreach.rel hars hres
    have fin : ∃ G'', Reach G w h' w' G'' ∧ RepV G'' r rv := by
      split at hs
      · rename_i hp
        simp only [hp, if_true] at e1 hs
        simp only [Option.map_eq_some_iff, Prod.mk.injEq] at hs
        obtain ⟨v', hfz, rfl, rfl⟩ := hs
        have g := evC_grow hc (Nat.le_refl _) e1
        have ho := g.2 h.length (Nat.le_refl _) (Nat.le_refl _) R.heapOk
        refine ⟨G'.cut h1 w' h.length, ⟨hreach.ext.cut hreach.rel R.n, hreach.rel.cut ho g.1, hreach.below⟩, (freeze_rep hreach.rel n).1 hfz h3⟩
      · injection hs with hs
        simp only [Prod.mk.injEq] at hs
        obtain ⟨rfl, rfl⟩ := hs
        exact ⟨G', hreach, h3⟩
    have hd0 : a'.defers = [] := q2
    cases ex with
    | normal => exact ⟨hd0, rv, h2, fin⟩
    | ret => exact ⟨hd0, rv, h2, fin⟩
    | exit id => exact absurd rfl (hno id)
  · simp at hs

/-- What an outside function is known by. -/
def ExtOk (P : Program) (gl : Nat → Option (List V)) (f : FuncId) (g : Nat → List V → Heap → Option (V × Heap)) : Prop :=
  (∀ base args h r h', g base args h = some (r, h') → base ≤ h.length → Grow base h h') ∧
  (∀ base args h r h', g base args h = some (r, h') → base ≤ h.length → ∀ G w vals, GlobOk G gl → Rel G h w → RepL G args vals.toList →
    CallsF P f vals w fun rv w' => ∃ G', Reach G w h' w' G' ∧ RepV G' r rv)

theorem call_ok {X : FuncId → Option (Nat → List V → Heap → Option (V × Heap))} {F : FuncId → Option AFunc} {quiet : FuncId → Nat} (hd : P.follows .mixedOrders = true) (hz : ∀ g, lookNo ≤ g → gl g = none) (hq : ∀ n, QuietOk quiet (evCall X F n))
    (hX : ∀ f g, X f = some g → ExtOk P gl f g) (hF : ∀ f A, F f = some A → FnOk P gl quiet f A) : ∀ n, CallOk P gl (evCall X F n)
  | 0 => ⟨fun _ _ _ _ _ _ hs => by simp [evCall] at hs, fun _ _ _ _ _ _ hs => by simp [evCall] at hs⟩
  | n + 1 => by
    have ih := call_ok hd hz hq hX hF n
    refine ⟨fun base f args h r h' hs hb => ?_, fun base f args h r h' hs hb G w vals hgl R hv => ?_⟩
    · unfold evCall at hs
      split at hs
      · rename_i g hg
        exact (hX f g hg).1 _ _ _ _ _ hs hb
      · split at hs
        · exact func_grow ih hb hs
        · simp at hs
    · unfold evCall at hs
      split at hs
      · rename_i g hg
        exact (hX f g hg).2 _ _ _ _ _ hs hb G w vals hgl R hv
      · split at hs
        · rename_i A hA
          exact func_runs (hq n) ih hd hz (hF f A hA) hb hs hgl R hv
        · simp at hs

end
end Go.Am
end
section
/- Am: functions that leave memory as it is, but for new blocks; what outside functions are known by. -/
namespace Go.Am
open Go.RowKit (Below)

def AOp.calm (quiet : FuncId → Nat) (op : AOp) : Bool := op.reads || op.grows quiet

def ACode.calm (quiet : FuncId → Nat) : ACode → Bool
  | .skip | .ret | .exit _ | .fail => true
  | .seq a b | .cond _ a b => a.calm quiet && b.calm quiet
  | .region ops => ops.all fun o => o.op.calm quiet
  | .block _ c | .loop c => c.calm quiet

section
variable {call : CallF} {base n : Nat} {quiet : FuncId → Nat}

theorem calm_val (hq : QuietOk quiet call) {o : AOper} {en : Env} {h h' : Heap} {v : V} (hc : o.op.calm quiet = true) (hs : evVal call base o en h = some (v, h')) : ∃ ext, h' = h ++ ext := by
  simp only [AOp.calm, Bool.or_eq_true] at hc
  rcases hc with hc | hc
  · exact ⟨[], by rw [(evVal_reads hc hs).1, List.append_nil]⟩
  · exact evVal_grows hq hc hs

theorem calm_ops (hq : QuietOk quiet call) : ∀ {ops : List AOper} {en en' : Env} {h h' : Heap}, (ops.all fun o => o.op.calm quiet) = true → evOps call base ops en h = some (en', h') → ∃ ext, h' = h ++ ext
  | [], en, en', h, h', _, hs => by
    simp only [evOps, Option.some.injEq, Prod.mk.injEq] at hs
    exact ⟨[], by rw [hs.2, List.append_nil]⟩
  | o :: ops, en, en', h, h', hc, hs => by
    simp only [List.all_cons, Bool.and_eq_true] at hc
    rw [evOps_cons, Option.bind_eq_some_iff] at hs
    obtain ⟨⟨v, h1⟩, e1, e2⟩ := hs
    obtain ⟨x, rfl⟩ := calm_val hq hc.1 e1
    obtain ⟨y, rfl⟩ := calm_ops hq hc.2 e2
    exact ⟨x ++ y, by simp⟩

theorem calm_iter {f : Env → Heap → Option (Ex × Env × Heap)} (hf : ∀ en h ex en' h', f en h = some (ex, en', h') → ∃ ext, h' = h ++ ext) :
    ∀ (k : Nat) {en en' : Env} {h h' : Heap} {ex : Ex}, iter f k en h = some (ex, en', h') → ∃ ext, h' = h ++ ext
  | 0, _, _, _, _, _, hs => by simp [iter] at hs
  | k + 1, en, en', h, h', ex, hs => by
    unfold iter at hs
    split at hs
    · rename_i en1 h1 e1
      obtain ⟨x, rfl⟩ := hf _ _ _ _ _ e1
      obtain ⟨y, rfl⟩ := calm_iter hf k hs
      exact ⟨x ++ y, by simp⟩
    · exact hf _ _ _ _ _ hs

theorem calm_code (hq : QuietOk quiet call) : ∀ {c : ACode} {en en' : Env} {h h' : Heap} {ex : Ex}, c.calm quiet = true → evC call base n c en h = some (ex, en', h') → ∃ ext, h' = h ++ ext
  | .skip, _, _, _, _, _, _, hs => by simp only [evC, Option.some.injEq, Prod.mk.injEq] at hs; exact ⟨[], by rw [hs.2.2, List.append_nil]⟩
  | .ret, _, _, _, _, _, _, hs => by simp only [evC, Option.some.injEq, Prod.mk.injEq] at hs; exact ⟨[], by rw [hs.2.2, List.append_nil]⟩
  | .exit id, _, _, _, _, _, _, hs => by simp only [evC, Option.some.injEq, Prod.mk.injEq] at hs; exact ⟨[], by rw [hs.2.2, List.append_nil]⟩
  | .fail, _, _, _, _, _, _, hs => by simp [evC] at hs
  | .seq a b, en, en', h, h', ex, hc, hs => by
    simp only [ACode.calm, Bool.and_eq_true] at hc
    simp only [evC] at hs
    split at hs
    · rename_i en1 h1 e1
      obtain ⟨x, rfl⟩ := calm_code hq hc.1 e1
      obtain ⟨y, rfl⟩ := calm_code hq hc.2 hs
      exact ⟨x ++ y, by simp⟩
    · exact calm_code hq hc.1 hs
  | .cond c a b, en, en', h, h', ex, hc, hs => by
    simp only [ACode.calm, Bool.and_eq_true] at hc
    simp only [evC] at hs
    split at hs
    · split at hs
      · exact calm_code hq hc.1 hs
      · exact calm_code hq hc.2 hs
    · simp at hs
  | .region ops, en, en', h, h', ex, hc, hs => by
    simp only [ACode.calm] at hc
    simp only [evC] at hs
    split at hs
    · rename_i en1 h1 e1
      simp only [Option.some.injEq, Prod.mk.injEq] at hs
      rw [← hs.2.2]
      exact calm_ops hq hc e1
    · simp at hs
  | .block id c, en, en', h, h', ex, hc, hs => by
    simp only [ACode.calm] at hc
    simp only [evC] at hs
    split at hs
    · rename_i i en1 h1 e1
      obtain ⟨x, rfl⟩ := calm_code hq hc e1
      split at hs
      · simp only [Option.some.injEq, Prod.mk.injEq] at hs
        exact ⟨x, hs.2.2.symm⟩
      · simp only [Option.some.injEq, Prod.mk.injEq] at hs
        exact ⟨x, hs.2.2.symm⟩
    · exact calm_code hq hc hs
  | .loop c, en, en', h, h', ex, hc, hs => by
    simp only [ACode.calm] at hc
    simp only [evC] at hs
    exact calm_iter (fun _ _ _ _ _ e => calm_code hq hc e) n hs

theorem calm_func (hq : QuietOk quiet call) {A : AFunc} {args : List V} {h h' : Heap} {v : V} (hc : A.body.calm quiet = true) (hs : evFunc call n base A args h = some (v, h')) : ∃ ext, h' = h ++ ext := by
  unfold evFunc at hs
  split at hs
  · simp only at hs
    split at hs
    · simp at hs
    · rename_i ex en h1 hno e1
      obtain ⟨x, rfl⟩ := calm_code hq hc e1
      simp only [Option.bind_eq_some_iff] at hs
      obtain ⟨rs, _, hs⟩ := hs
      split at hs
      · rename_i hp
        simp only [Option.map_eq_some_iff, Prod.mk.injEq] at hs
        obtain ⟨_, _, _, rfl⟩ := hs
        exact ⟨[], by simp⟩
      · simp only [Option.some.injEq, Prod.mk.injEq] at hs
        exact ⟨x, hs.2.symm⟩
    · simp at hs
  · simp at hs
end

/-! ### Functions that look at no memory -/

def ACode.still (quiet : FuncId → Nat) : ACode → Bool
  | .skip | .ret | .exit _ | .fail => true
  | .seq a b | .cond _ a b => a.still quiet && b.still quiet
  | .block _ c | .loop c => c.still quiet
  | .region ops => ops.all fun o => o.op.inertQ quiet && o.off.isEmpty

def ARes.still : ARes → Bool
  | .tmp _ => true
  | _ => false

/-- A function that looks at no memory. -/
def AFunc.still (quiet : FuncId → Nat) (A : AFunc) : Bool := !A.pure && A.results.all ARes.still && A.body.still quiet

section
variable {call : CallF} {base n : Nat} {quiet : FuncId → Nat}

theorem still_val (hq : QuietOk quiet call) {o : AOper} {en : Env} {h h' : Heap} {v : V} (hc : (o.op.inertQ quiet && o.off.isEmpty) = true) (hs : evVal call base o en h = some (v, h')) :
    h' = h ∧ ∀ b2 h2, evVal call b2 o en h2 = some (v, h2) := by
  simp only [Bool.and_eq_true] at hc
  obtain ⟨hi, hoff⟩ := hc
  refine ⟨(evVal_inertQ hq hi hs).1, fun b2 h2 => ?_⟩
  have key : evOper call base en h o = some (v, h') → evOper call b2 en h2 o = some (v, h2) := by
    intro e
    obtain ⟨ho, e⟩ := evOper_inv e
    refine evOper_of (by simp [offOk, List.isEmpty_iff.1 hoff]) ?_
    by_cases hin : o.op.inert = true
    · rw [evOp_noCall (inert_noCall hin)] at e ⊢
      exact (inert_step hin e).2 b2 h2
    · unfold AOp.inertQ at hi
      split at hi
      · rename_i k args eop
        rw [eop] at e ⊢
        simp only [evOp, Opd.get, target, List.nil_append, List.append_nil] at e ⊢
        exact (hq.2 k (by simpa using hi) _ _ _ _ _ e).2 b2 h2
      · exact absurd hi hin
  unfold evVal at hs ⊢
  split at hs
  · exact key hs
  · rename_i g want hg
    cases hen : gOk (en g) want with
    | none => rw [hen] at hs; simp at hs
    | some t =>
      rw [hen] at hs
      cases t with
      | true => exact key hs
      | false =>
        simp only [Option.some.injEq, Prod.mk.injEq] at hs ⊢
        exact ⟨hs.1, trivial⟩

theorem still_ops (hq : QuietOk quiet call) : ∀ {ops : List AOper} {en en' : Env} {h h' : Heap}, (ops.all fun o => o.op.inertQ quiet && o.off.isEmpty) = true → evOps call base ops en h = some (en', h') →
    h' = h ∧ ∀ b2 h2, evOps call b2 ops en h2 = some (en', h2)
  | [], en, en', h, h', _, hs => by
    simp only [evOps, Option.some.injEq, Prod.mk.injEq] at hs ⊢
    exact ⟨hs.2.symm, fun _ _ => ⟨hs.1, trivial⟩⟩
  | o :: r, en, en', h, h', hc, hs => by
    simp only [List.all_cons, Bool.and_eq_true] at hc
    rw [evOps_cons, Option.bind_eq_some_iff] at hs
    obtain ⟨⟨v, h1⟩, e1, e2⟩ := hs
    obtain ⟨rfl, q1⟩ := still_val hq (by simpa using hc.1) e1
    obtain ⟨rfl, q2⟩ := still_ops hq (by simpa using hc.2) e2
    refine ⟨rfl, fun b2 h2 => ?_⟩
    rw [evOps_cons, q1 b2 h2]
    exact q2 b2 h2

theorem still_iter {f g : Env → Heap → Option (Ex × Env × Heap)} (hf : ∀ en h ex en' h', f en h = some (ex, en', h') → h' = h ∧ ∀ h2, g en h2 = some (ex, en', h2)) :
    ∀ (k : Nat) {en en' : Env} {h h' : Heap} {ex : Ex}, iter f k en h = some (ex, en', h') → h' = h ∧ ∀ h2, iter g k en h2 = some (ex, en', h2)
  | 0, _, _, _, _, _, hs => by simp [iter] at hs
  | k + 1, en, en', h, h', ex, hs => by
    unfold iter at hs
    split at hs
    · rename_i en1 h1 e1
      obtain ⟨rfl, q1⟩ := hf _ _ _ _ _ e1
      obtain ⟨rfl, q2⟩ := still_iter hf k hs
      refine ⟨rfl, fun h2 => ?_⟩
      unfold iter
      rw [q1 h2]
      exact q2 h2
    · rename_i hno
      obtain ⟨rfl, q1⟩ := hf _ _ _ _ _ hs
      refine ⟨rfl, fun h2 => ?_⟩
      unfold iter
      rw [q1 h2]
      cases ex with
      | normal => exact absurd hs (hno _ _)
      | exit i => rfl
      | ret => rfl

theorem still_code (hq : QuietOk quiet call) : ∀ {c : ACode} {en en' : Env} {h h' : Heap} {ex : Ex}, c.still quiet = true → evC call base n c en h = some (ex, en', h') →
    h' = h ∧ ∀ b2 h2, evC call b2 n c en h2 = some (ex, en', h2)
  | .skip, _, _, _, _, _, _, hs => by simp only [evC, Option.some.injEq, Prod.mk.injEq] at hs ⊢; exact ⟨hs.2.2.symm, fun _ _ => ⟨hs.1, hs.2.1, trivial⟩⟩
  | .ret, _, _, _, _, _, _, hs => by simp only [evC, Option.some.injEq, Prod.mk.injEq] at hs ⊢; exact ⟨hs.2.2.symm, fun _ _ => ⟨hs.1, hs.2.1, trivial⟩⟩
  | .exit i, _, _, _, _, _, _, hs => by simp only [evC, Option.some.injEq, Prod.mk.injEq] at hs ⊢; exact ⟨hs.2.2.symm, fun _ _ => ⟨hs.1, hs.2.1, trivial⟩⟩
  | .fail, _, _, _, _, _, _, hs => by simp [evC] at hs
  | .seq a b, en, en', h, h', ex, hc, hs => by
    simp only [ACode.still, Bool.and_eq_true] at hc
    unfold evC at hs
    split at hs
    · rename_i en1 h1 e1
      obtain ⟨rfl, q1⟩ := still_code hq hc.1 e1
      obtain ⟨rfl, q2⟩ := still_code hq hc.2 hs
      refine ⟨rfl, fun b2 h2 => ?_⟩
      unfold evC
      rw [q1 b2 h2]
      exact q2 b2 h2
    · rename_i hno
      obtain ⟨rfl, q1⟩ := still_code hq hc.1 hs
      refine ⟨rfl, fun b2 h2 => ?_⟩
      unfold evC
      rw [q1 b2 h2]
      cases ex with
      | normal => exact absurd hs (hno _ _)
      | exit i => rfl
      | ret => rfl
  | .cond c a b, en, en', h, h', ex, hc, hs => by
    simp only [ACode.still, Bool.and_eq_true] at hc
    unfold evC at hs
    split at hs
    · rename_i t et
      cases t with
      | true =>
        obtain ⟨rfl, q1⟩ := still_code hq hc.1 hs
        exact ⟨rfl, fun b2 h2 => by unfold evC; rw [et]; exact q1 b2 h2⟩
      | false =>
        obtain ⟨rfl, q1⟩ := still_code hq hc.2 hs
        exact ⟨rfl, fun b2 h2 => by unfold evC; rw [et]; exact q1 b2 h2⟩
    · simp at hs
  | .region ops, en, en', h, h', ex, hc, hs => by
    simp only [ACode.still] at hc
    unfold evC at hs
    split at hs
    · rename_i en1 h1 e1
      obtain ⟨rfl, q1⟩ := still_ops hq hc e1
      simp only [Option.some.injEq, Prod.mk.injEq] at hs
      obtain ⟨rfl, rfl, rfl⟩ := hs
      exact ⟨rfl, fun b2 h2 => by unfold evC; rw [q1 b2 h2]⟩
    · simp at hs
  | .block id c, en, en', h, h', ex, hc, hs => by
    simp only [ACode.still] at hc
    unfold evC at hs
    split at hs
    · rename_i i en1 h1 e1
      obtain ⟨rfl, q1⟩ := still_code hq hc e1
      split at hs
      · rename_i hi
        simp only [Option.some.injEq, Prod.mk.injEq] at hs
        obtain ⟨rfl, rfl, rfl⟩ := hs
        exact ⟨rfl, fun b2 h2 => by unfold evC; rw [q1 b2 h2]; simp only [if_pos hi]⟩
      · rename_i hi
        simp only [Option.some.injEq, Prod.mk.injEq] at hs
        obtain ⟨rfl, rfl, rfl⟩ := hs
        exact ⟨rfl, fun b2 h2 => by unfold evC; rw [q1 b2 h2]; simp only [if_neg hi]⟩
    · rename_i hno
      obtain ⟨rfl, q1⟩ := still_code hq hc hs
      refine ⟨rfl, fun b2 h2 => ?_⟩
      unfold evC
      rw [q1 b2 h2]
      cases ex with
      | exit i => exact absurd hs (hno _ _ _)
      | normal => rfl
      | ret => rfl
  | .loop c, en, en', h, h', ex, hc, hs => by
    simp only [ACode.still] at hc
    unfold evC at hs
    refine ⟨(still_iter (g := fun en h => evC call base n c en h) (fun en h ex en' h' e => ⟨(still_code hq hc e).1, (still_code hq hc e).2 base⟩) n hs).1, fun b2 h2 => ?_⟩
    unfold evC
    exact (still_iter (g := fun en h => evC call b2 n c en h) (fun en h ex en' h' e => ⟨(still_code hq hc e).1, (still_code hq hc e).2 b2⟩) n hs).2 h2

theorem still_res {en : Env} {h : Heap} : ∀ {rs : List ARes} {vs : List V}, rs.all ARes.still = true → evRess en h rs = some vs → ∀ h2, evRess en h2 rs = some vs
  | [], vs, _, hs, h2 => hs
  | .tmp t :: rs, vs, hc, hs, h2 => by
    simp only [List.all_cons, Bool.and_eq_true] at hc
    simp only [evRess, evRes1, Option.bind_some, Option.map_eq_some_iff] at hs ⊢
    obtain ⟨us, hu, rfl⟩ := hs
    exact ⟨us, still_res hc.2 hu h2, rfl⟩
  | .cell a b :: rs, vs, hc, hs, h2 => by simp [ARes.still] at hc

theorem still_func (hq : QuietOk quiet call) {A : AFunc} {args : List V} {h h' : Heap} {v : V} (hc : A.still quiet = true) (hs : evFunc call n base A args h = some (v, h')) :
    h' = h ∧ ∀ b2 h2, evFunc call n b2 A args h2 = some (v, h2) := by
  simp only [AFunc.still, Bool.and_eq_true, Bool.not_eq_true'] at hc
  obtain ⟨⟨hp, hr⟩, hb⟩ := hc
  unfold evFunc at hs
  split at hs
  · rename_i hl
    simp only [hp, Bool.false_eq_true, if_false] at hs
    split at hs
    · simp at hs
    · rename_i ex en h1 hno e1
      obtain ⟨rfl, q1⟩ := still_code hq hb e1
      simp only [Option.bind_eq_some_iff, Option.some.injEq, Prod.mk.injEq] at hs
      obtain ⟨rs, e2, e3, rfl⟩ := hs
      refine ⟨rfl, fun b2 h2 => ?_⟩
      unfold evFunc
      rw [if_pos hl]
      simp only [hp, Bool.false_eq_true, if_false]
      rw [q1 b2 h2]
      cases ex with
      | exit i => exact (hno i rfl).elim
      | normal => simp only [still_res hr e2 h2, Option.bind_some, e3]
      | ret => simp only [still_res hr e2 h2, Option.bind_some, e3]
    · simp at hs
  · simp at hs
end

theorem quiet_ok {X : FuncId → Option (Nat → List V → Heap → Option (V × Heap))} {F : FuncId → Option AFunc} {quiet : FuncId → Nat}
    (hX : ∀ f g, quiet f ≠ 0 → X f = some g → (∀ base args h v h', g base args h = some (v, h') → ∃ ext, h' = h ++ ext) ∧ quiet f ≠ 2)
    (hF : ∀ f A, quiet f ≠ 0 → X f = none → F f = some A → A.body.calm quiet = true ∧ (quiet f = 2 → A.still quiet = true)) : ∀ n, QuietOk quiet (evCall X F n)
  | 0 => ⟨fun _ _ _ _ _ _ _ hs => by simp [evCall] at hs, fun _ _ _ _ _ _ _ hs => by simp [evCall] at hs⟩
  | n + 1 => by
    have ih := quiet_ok hX hF n
    refine ⟨fun k hk base args h v h' hs => ?_, fun k hk base args h v h' hs => ?_⟩
    · unfold evCall at hs
      split at hs
      · rename_i g hg
        exact (hX k g hk hg).1 _ _ _ _ _ hs
      · rename_i hg
        split at hs
        · rename_i A hA
          exact calm_func ih (hF k A hk hg hA).1 hs
        · simp at hs
    · have hk0 : quiet k ≠ 0 := by rw [hk]; simp
      unfold evCall at hs
      split at hs
      · rename_i g hg
        exact absurd hk (hX k g hk0 hg).2
      · rename_i hg
        split at hs
        · rename_i A hA
          obtain ⟨q1, q2⟩ := still_func ih ((hF k A hk0 hg hA).2 hk) hs
          refine ⟨q1, fun b2 h2 => ?_⟩
          unfold evCall
          rw [hg]
          simp only [hA]
          exact q2 b2 h2
        · simp at hs

section
variable {P : Program} {gl : Nat → Option (List V)}

def xSame : Nat → List V → Heap → Option (V × Heap) := fun _ args h => match args with
  | [x] => some (x, h)
  | _ => none

theorem xSame_ok {f : FuncId} {fn : Func} (hf : P.funcs[f]? = some fn) (hname : (fn.name == "runtime.NumGoroutine") = false) (hb : fn.body.isNone = true) (hn : Extern.findNext fn = none) (he : Extern.find fn = some Extern.AbiNoEscape.same) : ExtOk P gl f xSame := by
  have inv : ∀ base args h r h', xSame base args h = some (r, h') → args = [r] ∧ h' = h := by
    intro base args h r h' hs
    unfold xSame at hs
    split at hs
    · simp only [Option.some.injEq, Prod.mk.injEq] at hs
      obtain ⟨rfl, rfl⟩ := hs
      exact ⟨rfl, rfl⟩
    · simp at hs
  refine ⟨fun base args h r h' hs hl => ?_, fun base args h r h' hs hl G w vals hgl R hv => ?_⟩
  · rw [(inv _ _ _ _ _ hs).2]; exact Grow.refl _ _
  · obtain ⟨rfl, rfl⟩ := inv _ _ _ _ _ hs
    simp only [RepL] at hv
    obtain ⟨rv, rest, hvals, h1, rfl⟩ := hv
    have hvals : vals = #[rv] := by rw [← Array.toArray_toList (xs := vals), hvals]
    subst hvals
    unfold CallsF
    rw [run_callFunc_extern hf hname hb hn he]
    have : (Extern.AbiNoEscape.same #[rv]).run P w = .ok rv w := rfl
    rw [this]
    exact ⟨G, Reach.refl R, h1⟩

/-- internal/bytealg.MakeNoZero: elements of the type 'e', of which nothing is known. -/
def xMake (e : TypeId) : Nat → List V → Heap → Option (V × Heap) := fun _ args h => match args with
  | [.sc (.int .i64 n)] => if 0 ≤ n ∧ n.toNat ≤ lim then some (.hsl h.length 0 0 n.toNat, h ++ [.row e 1 0 []]) else none
  | _ => none

theorem xMake_ok {f : FuncId} {fn : Func} {ps : Array TypeId} {t e : TypeId} (hf : P.funcs[f]? = some fn) (hname : (fn.name == "runtime.NumGoroutine") = false) (hb : fn.body.isNone = true) (hn : Extern.findNext fn = none)
    (he : Extern.find fn = some (Extern.BytealgMakeNoZero.makeNoZero ps #[t])) (ht : P.underlying t = some (.slice e)) : ExtOk P gl f (xMake e) := by
  have inv : ∀ base args h r h', xMake e base args h = some (r, h') → ∃ n : Int, args = [.sc (.int .i64 n)] ∧ 0 ≤ n ∧ n.toNat ≤ lim ∧ r = .hsl h.length 0 0 n.toNat ∧ h' = h ++ [.row e 1 0 []] := by
    intro base args h r h' hs
    unfold xMake at hs
    split at hs
    · rename_i n
      split at hs
      · rename_i hc
        simp only [Option.some.injEq, Prod.mk.injEq] at hs
        obtain ⟨rfl, rfl⟩ := hs
        exact ⟨n, rfl, hc.1, hc.2, rfl, rfl⟩
      · simp at hs
    · simp at hs
  refine ⟨fun base args h r h' hs hl => ?_, fun base args h r h' hs hl G w vals hgl R hv => ?_⟩
  · obtain ⟨n, _, _, _, _, rfl⟩ := inv _ _ _ _ _ hs
    exact Grow.app _ _ _
  · obtain ⟨n, rfl, h0, hlim, rfl, rfl⟩ := inv _ _ _ _ _ hs
    simp only [RepL] at hv
    obtain ⟨rv, rest, hvals, h1, rfl⟩ := hv
    have h1 := h1.sc_inv
    subst h1
    have hvals : vals = #[.int .i64 n] := by rw [← Array.toArray_toList (xs := vals), hvals]
    subst hvals
    obtain ⟨cs, hrun, hcs, _⟩ := Lib.run_makeNoZero (P := P) w ps t e ht n.toNat (by unfold lim at hlim; omega)
    rw [Int.toNat_of_nonneg h0] at hrun
    unfold CallsF
    rw [run_callFunc_extern hf hname hb hn he, hrun]
    refine ⟨G.newRow ⟨0, 1, w.heap.size, cs.size⟩, ⟨Ext.newRow G _, R.drew.drew.newRow e (by omega) (by simp) (by simp) (fun i c hi => by simp at hi), ?_⟩, ?_⟩
    · exact ((Below.refl _ _).drew.drew).alloc R.hb0 _
    · simp only [RepV]
      refine ⟨by simp [Tie.newRow, R.n], _, _, rfl, fun L hL => ?_⟩
      simp only [Tie.newRow, R.n, if_true, Option.some.injEq] at hL
      subst hL
      exact ⟨Nat.le_refl _, fun _ => ⟨hcs, by simp, fun _ => by simp⟩⟩

theorem xSame_grows : ∀ (base : Nat) (args : List V) (h : Heap) (v : V) (h' : Heap), xSame base args h = some (v, h') → ∃ ext, h' = h ++ ext := by
  intro base args h v h' hs
  unfold xSame at hs
  split at hs
  · simp only [Option.some.injEq, Prod.mk.injEq] at hs
    exact ⟨[], by simp [hs.2]⟩
  · simp at hs

theorem xMake_grows {e : TypeId} : ∀ (base : Nat) (args : List V) (h : Heap) (v : V) (h' : Heap), xMake e base args h = some (v, h') → ∃ ext, h' = h ++ ext := by
  intro base args h v h' hs
  unfold xMake at hs
  split at hs
  · split at hs
    · simp only [Option.some.injEq, Prod.mk.injEq] at hs
      exact ⟨_, hs.2.symm⟩
    · simp at hs
  · simp at hs
end
end Go.Am
end
section
/- Am: outside functions of the library, known by contracts: internal/bytealg's IndexByte and Count. -/
namespace Go.Am
open Go.RowKit (Below)

/-- The bytes of a text, or of a slice. -/
def bytesAt (h : Heap) : V → Option (List UInt8)
  | .sc (.string s) => some s.data.toList
  | x => (elems 1 h x).bind bytesIn

/-- internal/bytealg.IndexByte, IndexByteString -/
def xIndexByte : Nat → List V → Heap → Option (V × Heap) := fun _ args h => match args with
  | [x, .sc (.int .u8 c)] => (bytesAt h x).map fun l => (.sc (.int .i64 (Lib.indexByte l c.toNat.toUInt8)), h)
  | _ => none

/-- internal/bytealg.Count, CountString -/
def xCount : Nat → List V → Heap → Option (V × Heap) := fun _ args h => match args with
  | [x, .sc (.int .u8 c)] => (bytesAt h x).map fun l => (.sc (.int .i64 ((l.foldl (fun n y => if y == c.toNat.toUInt8 then n + 1 else n) (0 : Nat) : Nat) : Int)), h)
  | _ => none

section
variable {P : Program} {gl : Nat → Option (List V)} {G : Tie} {h : Heap} {w : World}

theorem bytesOf_run {x : V} {r : Value} {l : List UInt8} (R : Rel G h w) (hx : RepV G x r) (hb : bytesAt h x = some l) : (Extern.Bytes.bytesOf r).run P w = .ok ⟨l.toArray⟩ w := by
  unfold bytesAt at hb
  split at hb
  · rename_i s
    injection hb with hb
    subst hb
    rw [hx.sc_inv]
    simp [Extern.Bytes.bytesOf]
  · simp only [Option.bind_eq_some_iff] at hb
    obtain ⟨rows, he, hb⟩ := hb
    obtain ⟨a, cap, rs, rfl, _, hf, hc⟩ := elems_run R hx he
    obtain ⟨ns, rfl, rfl⟩ := bytesIn_map hb
    by_cases hne : ns = []
    · subst hne
      cases a with
      | none => simp [Extern.Bytes.bytesOf]; rfl
      | some a => simp [Extern.Bytes.bytesOf, Extern.Bytes.loadBytes]; rfl
    · obtain ⟨b, o, rfl, h3⟩ := hc (by simpa using hne)
      have hl := Lib.run_loadBytesX (P := P) w ns ⟨b, o, none⟩ .empty (fun j n hj => by
        rw [add_none]
        have hjl := (List.getElem?_eq_some_iff.1 hj).1
        obtain ⟨_, h4⟩ := hf.2 j [V.sc (.int .u8 n)] (by simp [hj])
        obtain ⟨v, h5, h6⟩ := h4 0 _ rfl
        have := h6.sc_inv
        subst this
        exact h3 j _ (by simpa using h5))
      simp only [List.length_map, Extern.Bytes.bytesOf]
      rw [hl]
      congr 1
      apply ByteArray.ext
      show (#[] : Array UInt8) ++ _ = _
      simp [Lib.bytesOf]

theorem ext_of {f : FuncId} {fn : Func} {g : Nat → List V → Heap → Option (V × Heap)} {m : Array Value → Sem Value} (hf : P.funcs[f]? = some fn) (hname : (fn.name == "runtime.NumGoroutine") = false) (hb : fn.body.isNone = true) (hn : Extern.findNext fn = none) (he : Extern.find fn = some m)
    (inv : ∀ base args h r h', g base args h = some (r, h') → h' = h ∧ ∀ (G : Tie) (w : World) (vals : List Value), Rel G h w → RepL G args vals → ∃ rv, (m vals.toArray).run P w = .ok rv w ∧ RepV G r rv) : ExtOk P gl f g := by
  refine ⟨fun base args h r h' hs hl => ?_, fun base args h r h' hs hl G w vals hgl R hv => ?_⟩
  · rw [(inv _ _ _ _ _ hs).1]; exact Grow.refl _ _
  · obtain ⟨rfl, q⟩ := inv _ _ _ _ _ hs
    obtain ⟨rv, h1, h2⟩ := q G w _ R hv
    unfold CallsF
    rw [run_callFunc_extern hf hname hb hn he]
    rw [Array.toArray_toList] at h1
    rw [h1]
    exact ⟨G, Reach.refl R, h2⟩

theorem xIndexByte_ok {f : FuncId} {fn : Func} (hf : P.funcs[f]? = some fn) (hname : (fn.name == "runtime.NumGoroutine") = false) (hb : fn.body.isNone = true) (hn : Extern.findNext fn = none) (he : Extern.find fn = some Extern.BytealgIndexByte.indexByte) : ExtOk P gl f xIndexByte := by
  refine ext_of hf hname hb hn he fun base args h r h' hs => ?_
  unfold xIndexByte at hs
  split at hs
  · rename_i x c
    simp only [Option.map_eq_some_iff, Prod.mk.injEq] at hs
    obtain ⟨l, hl, rfl, rfl⟩ := hs
    refine ⟨rfl, fun G w vals R hv => ?_⟩
    simp only [RepL] at hv
    obtain ⟨r1, rest, rfl, h1, r2, rest2, rfl, h2, rfl⟩ := hv
    have h2 := h2.sc_inv
    subst h2
    refine ⟨.int .i64 (Lib.indexByte l c.toNat.toUInt8), ?_, RepV.int _ _ _⟩
    have hs := Lib.run_indexByteString (P := P) ⟨l.toArray⟩ c w
    have hbr := bytesOf_run (P := P) R h1 hl
    change Sem.run P (do
      let b ← Extern.Bytes.bytesOf r1
      let c ← Extern.Bytes.asByte (.int .u8 c)
      match (List.range b.size).find? fun i => b[i]! == c with
      | some i => pure (goInt i)
      | none => pure (goInt (-1))) w = _
    change Sem.run P (do
      let b ← Extern.Bytes.bytesOf (.string ⟨l.toArray⟩)
      let c ← Extern.Bytes.asByte (.int .u8 c)
      match (List.range b.size).find? fun i => b[i]! == c with
      | some i => pure (goInt i)
      | none => pure (goInt (-1))) w = _ at hs
    simp only [Extern.Bytes.bytesOf, Sem.run_bind, Sem.run_pure, Result.andThen] at hs
    simp only [Sem.run_bind, hbr, Result.andThen]
    exact hs
  · simp at hs
end

theorem xIndexByte_grows : ∀ (base : Nat) (args : List V) (h : Heap) (v : V) (h' : Heap), xIndexByte base args h = some (v, h') → ∃ ext, h' = h ++ ext := by
  intro base args h v h' hs
  unfold xIndexByte at hs
  split at hs
  · simp only [Option.map_eq_some_iff, Prod.mk.injEq] at hs
    obtain ⟨_, _, _, rfl⟩ := hs
    exact ⟨[], by simp⟩
  · simp at hs
end Go.Am
end
