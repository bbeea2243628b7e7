/- Am: abstract memory and the machine's memory go on together: a new block, a store, a load. -/
import Derived.Test.YtefbdhbfhgapeaaDoorAmRep
namespace Go.Am
open Go.RowKit (Below)

theorem below_setRow (w : World) (k B : Nat) (rs : Array Value) (h : B ≤ k) : Below B w (w.setRow k rs) :=
  ⟨rfl, rfl, rfl, by simp, fun c hc => setRow_other w k c rs (by omega)⟩

theorem below_alloc (w : World) (B : Nat) (o : Go.Obj) (h : B ≤ w.heap.size) : Below B w (w.alloc o) := (Below.refl B w).alloc h o

theorem below_drew_alloc (w : World) (B : Nat) (o : Go.Obj) (h : B ≤ w.heap.size) : Below B w (w.drew.alloc o) := ((Below.refl B w).drew).alloc h o

theorem heap_alloc_lt (w : World) (o : Go.Obj) (k : Nat) (h : k < w.heap.size) : (w.alloc o).heap[k]? = w.heap[k]? := by
  show (w.heap.push o)[k]? = _
  rw [Array.getElem?_push, if_neg (by omega)]

theorem heap_alloc_eq (w : World) (o : Go.Obj) : (w.alloc o).heap[w.heap.size]? = some o := by
  show (w.heap.push o)[w.heap.size]? = _
  simp

theorem add_none (b o n : Nat) : (⟨b, o, none⟩ : Addr).add n = ⟨b, o + n, none⟩ := by
  unfold Addr.add
  split <;> simp_all

/-- One block turned, or one more. -/
theorem Rel.put {G G' : Tie} {h h' : Heap} {w w' : World} (R : Rel G h w) (x : Ext G G') (b k : Nat)
    (hx : ∀ c, c ≠ b → h'[c]? = h[c]?) (hn : G'.n = h'.length)
    (hfz : G'.fz = G.fz) (hbx : ∀ c, c ≠ b → G'.bx c = G.bx c) (hrw : ∀ c, c ≠ b → G'.rw c = G.rw c)
    (hk : ∀ k', G'.real h' b = some k' → k' = k) (hlow : G.b0 ≤ k) (hfree : ∀ o, G.fz k o = none) (hown : ∀ c, c ≠ b → G.real h c ≠ some k)
    (hs : w.heap.size ≤ w'.heap.size) (hw : ∀ c, c ≠ k → c < w.heap.size → w'.heap[c]? = w.heap[c]?)
    (hbox : ∀ t cs, h'[b]? = some (.box t cs) → cs.all oneCell = true ∧ ∃ rs, w'.heap[G'.bx b]? = some (.cells rs t (0, 0)) ∧ RepL G' cs rs.toList)
    (hrow : ∀ t sz e rows, h'[b]? = some (.row t sz e rows) → 0 < sz ∧ ∃ L rs, G'.rw b = some L ∧ L.e = e ∧ L.sz = sz ∧ rows.length ≤ L.cp ∧
      w'.heap[L.blk]? = some (.cells rs t (0, 0)) ∧ rs.size = L.cp * sz ∧ RepBlk G' sz rs rows) : Rel G' h' w' := by
  have hreal : ∀ c, c ≠ b → G'.real h' c = G.real h c := by
    intro c hc
    unfold Tie.real
    rw [hx c hc, hbx c hc, hrw c hc]
  refine ⟨hn, ?_, ?_, ?_, ?_, ?_, ?_⟩
  · intro c o v hv
    rw [hfz] at hv
    have := R.fz c o v hv
    have hc : c < w.heap.size := by
      unfold World.cell? at this
      rcases Nat.lt_or_ge c w.heap.size with hb | hb
      · exact hb
      · simp [Array.getElem?_eq_none hb] at this
    have hck : c ≠ k := by
      intro e
      subst e
      rw [hfree o] at hv
      simp at hv
    unfold World.cell? at this ⊢
    rwa [hw c hck hc]
  · intro c t cs e
    by_cases hc : c = b
    · subst hc; exact hbox t cs e
    · rw [hx c hc] at e
      obtain ⟨h1, rs, h2, h3⟩ := R.box c t cs e
      have hne : G.bx c ≠ k := by
        intro ek
        apply hown c hc
        unfold Tie.real
        rw [e, ek]
      refine ⟨h1, rs, ?_, h3.ext x⟩
      rw [hbx c hc, hw _ hne (Array.getElem?_eq_some_iff.1 h2).1]
      exact h2
  · intro c t sz e rows eq
    by_cases hc : c = b
    · subst hc; exact hrow t sz e rows eq
    · rw [hx c hc] at eq
      obtain ⟨h0, L, rs, h1, h2, h3, h4, h5, h6, h7⟩ := R.row c t sz e rows eq
      have hne : L.blk ≠ k := by
        intro ek
        apply hown c hc
        unfold Tie.real
        simp [eq, h1, ek]
      refine ⟨h0, L, rs, ?_, h2, h3, h4, ?_, h6, h7.ext x⟩
      · rw [hrw c hc]; exact h1
      · rw [hw _ hne (Array.getElem?_eq_some_iff.1 h5).1]; exact h5
  · intro c k' hk'
    by_cases hc : c = b
    · subst hc
      rw [hk k' hk', x.b0, hfz]
      exact ⟨hlow, hfree⟩
    · rw [hreal c hc] at hk'
      rw [x.b0, hfz]
      exact R.low c k' hk'
  · intro c c' k' h1 h2
    by_cases hc : c = b
    · by_cases hc' : c' = b
      · rw [hc, hc']
      · subst hc
        rw [hreal c' hc'] at h2
        exact absurd (hk k' h1 ▸ h2) (hown c' hc')
    · by_cases hc' : c' = b
      · subst hc'
        rw [hreal c hc] at h1
        exact absurd (hk k' h2 ▸ h1) (hown c hc)
      · rw [hreal c hc] at h1
        rw [hreal c' hc'] at h2
        exact R.inj c c' k' h1 h2
  · rw [x.b0]
    exact Nat.le_trans R.hb0 hs

theorem Rel.real_lt {G : Tie} {h : Heap} {b k : Nat} (hk : G.real h b = some k) : b < h.length := by
  unfold Tie.real at hk
  rcases Nat.lt_or_ge b h.length with hb | hb
  · exact hb
  · simp [List.getElem?_eq_none hb] at hk

theorem Rel.fz_new {G : Tie} {h : Heap} {w : World} (R : Rel G h w) (o : Nat) : G.fz w.heap.size o = none := by
  cases e : G.fz w.heap.size o with
  | none => rfl
  | some v =>
    have := R.fz _ _ _ e
    unfold World.cell? at this
    simp at this

/-- A new box. -/
def Tie.newBox (G : Tie) (k : Nat) : Tie := { G with n := G.n + 1, bx := fun c => if c = G.n then k else G.bx c }
def Tie.newRow (G : Tie) (L : RowLoc) : Tie := { G with n := G.n + 1, rw := fun c => if c = G.n then some L else G.rw c }
def Tie.setRow (G : Tie) (b : Nat) (L : RowLoc) : Tie := { G with rw := fun c => if c = b then some L else G.rw c }

theorem Ext.newBox (G : Tie) (k : Nat) : Ext G (G.newBox k) where
  fz _ _ _ h := h
  n := Nat.le_succ _
  bx b hb := by simp only [Tie.newBox]; rw [if_neg (by omega)]
  rw _ _ L h := ⟨L, h, Nat.le_refl _, fun _ => rfl⟩
  b0 := rfl

theorem Ext.newRow (G : Tie) (k : RowLoc) : Ext G (G.newRow k) where
  fz _ _ _ h := h
  n := Nat.le_succ _
  bx _ _ := rfl
  rw b hb L h := by
    simp only [Tie.newRow] at h
    rw [if_neg (by omega)] at h
    exact ⟨L, h, Nat.le_refl _, fun _ => rfl⟩
  b0 := rfl

theorem Ext.setRow (G : Tie) (b : Nat) (L L' : RowLoc) (hb : G.rw b = some L) (he : L.e ≤ L'.e) (hq : L.e = L'.e → L' = L) : Ext G (G.setRow b L') where
  fz _ _ _ h := h
  n := Nat.le_refl _
  bx _ _ := rfl
  rw c hc M h := by
    simp only [Tie.setRow] at h
    by_cases e : c = b
    · subst e
      rw [if_pos rfl] at h
      injection h with h
      subst h
      exact ⟨L, hb, he, hq⟩
    · rw [if_neg e] at h
      exact ⟨M, h, Nat.le_refl _, fun _ => rfl⟩
  b0 := rfl

theorem Rel.newBox {G : Tie} {h : Heap} {w : World} (R : Rel G h w) {cs : List V} {rs : Array Value} (ty : TypeId) (h1 : cs.all oneCell = true) (hr : RepL G cs rs.toList) :
    Rel (G.newBox w.heap.size) (h ++ [.box ty cs]) (w.alloc (.cells rs ty (0, 0))) := by
  have x := Ext.newBox G w.heap.size
  refine R.put x G.n w.heap.size ?_ ?_ rfl ?_ (fun _ _ => rfl) ?_ R.hb0 R.fz_new ?_ ?_ ?_ ?_ ?_
  · intro c hc
    rw [R.n] at hc
    rcases Nat.lt_or_ge c h.length with hl | hl
    · rw [List.getElem?_append_left hl]
    · rw [List.getElem?_eq_none hl, List.getElem?_eq_none (by simp; omega)]
  · simp [Tie.newBox, R.n]
  · intro c hc
    simp only [Tie.newBox]
    rw [if_neg hc]
  · intro k' hk'
    unfold Tie.real at hk'
    rw [R.n, List.getElem?_append_right (Nat.le_refl _)] at hk'
    simp [Tie.newBox, R.n] at hk'
    omega
  · intro c hc e
    have := R.lt e
    omega
  · simp
  · intro c hc hl
    exact heap_alloc_lt w _ c hl
  · intro t' cs' e
    rw [R.n, List.getElem?_append_right (Nat.le_refl _)] at e
    simp at e
    obtain ⟨rfl, rfl⟩ := e
    refine ⟨h1, rs, ?_, hr.ext x⟩
    simp only [Tie.newBox, if_true]
    exact heap_alloc_eq w _
  · intro t sz e rows eq
    rw [R.n, List.getElem?_append_right (Nat.le_refl _)] at eq
    simp at eq

theorem Rel.newRow {G : Tie} {h : Heap} {w : World} (R : Rel G h w) {sz cp : Nat} {rows : List (List V)} {rs : Array Value} (ty : TypeId) (hsz : 0 < sz) (hcp : rows.length ≤ cp)
    (hs : rs.size = cp * sz) (hr : RepBlk G sz rs rows) :
    Rel (G.newRow ⟨0, sz, w.heap.size, cp⟩) (h ++ [.row ty sz 0 rows]) (w.alloc (.cells rs ty (0, 0))) := by
  have x := Ext.newRow G ⟨0, sz, w.heap.size, cp⟩
  refine R.put x G.n w.heap.size ?_ ?_ rfl (fun _ _ => rfl) ?_ ?_ R.hb0 R.fz_new ?_ ?_ ?_ ?_ ?_
  · intro c hc
    rw [R.n] at hc
    rcases Nat.lt_or_ge c h.length with hl | hl
    · rw [List.getElem?_append_left hl]
    · rw [List.getElem?_eq_none hl, List.getElem?_eq_none (by simp; omega)]
  · simp [Tie.newRow, R.n]
  · intro c hc
    simp only [Tie.newRow]
    rw [if_neg hc]
  · intro k' hk'
    unfold Tie.real at hk'
    rw [R.n, List.getElem?_append_right (Nat.le_refl _)] at hk'
    simp [Tie.newRow, R.n] at hk'
    omega
  · intro c hc e
    have := R.lt e
    omega
  · simp
  · intro c hc hl
    exact heap_alloc_lt w _ c hl
  · intro t' cs' e
    rw [R.n, List.getElem?_append_right (Nat.le_refl _)] at e
    simp at e
  · intro t' sz' e rows' eq
    rw [R.n, List.getElem?_append_right (Nat.le_refl _)] at eq
    simp at eq
    obtain ⟨rfl, rfl, rfl, rfl⟩ := eq
    refine ⟨hsz, ⟨0, sz, w.heap.size, cp⟩, rs, ?_, rfl, rfl, hcp, ?_, hs, hr.ext x⟩
    · simp [Tie.newRow]
    · exact heap_alloc_eq w _

/-- A box's cells turned. -/
theorem Rel.setBox {G : Tie} {h : Heap} {w : World} (R : Rel G h w) {b : Nat} {cs cs' : List V} {rs rs' : Array Value} {ty : TypeId} (hb : h[b]? = some (.box ty cs))
    (hw : w.heap[G.bx b]? = some (.cells rs ty (0, 0))) (h1 : cs'.all oneCell = true) (hr : RepL G cs' rs'.toList) : Rel G (h.set b (.box ty cs')) (w.setRow (G.bx b) rs') := by
  have hreal : G.real h b = some (G.bx b) := by unfold Tie.real; rw [hb]
  have hlt : b < h.length := Rel.real_lt hreal
  refine R.put (Ext.refl G) b (G.bx b) ?_ ?_ rfl (fun _ _ => rfl) (fun _ _ => rfl) ?_ (R.low b _ hreal).1 (R.low b _ hreal).2 ?_ ?_ ?_ ?_ ?_
  · intro c hc
    rw [List.getElem?_set_ne (by omega)]
  · simp [R.n]
  · intro k' hk'
    unfold Tie.real at hk'
    rw [List.getElem?_set_self hlt] at hk'
    simpa using hk'.symm
  · intro c hc e
    exact hc (R.inj c b _ e hreal)
  · simp [World.setRow]
  · intro c hc _
    exact setRow_other w _ _ _ hc
  · intro t' cs'' e
    rw [List.getElem?_set_self hlt] at e
    simp at e
    obtain ⟨rfl, rfl⟩ := e
    exact ⟨h1, rs', setRow_heap w _ _ _ _ _ hw, hr⟩
  · intro t sz e rows eq
    rw [List.getElem?_set_self hlt] at eq
    simp at eq


/-- A row turned: at its place, or at a new one. -/
theorem Rel.setRowAt {G : Tie} {h : Heap} {w w' : World} (R : Rel G h w) {b : Nat} {sz e e' : Nat} {rows rows' : List (List V)} {L L' : RowLoc} {rs' : Array Value} {ty : TypeId}
    (hb : h[b]? = some (.row ty sz e rows)) (hL : G.rw b = some L) (he : L.e ≤ L'.e) (hq : L.e = L'.e → L' = L) (hLe : L'.e = e') (hLs : L'.sz = sz) (hcp : rows'.length ≤ L'.cp)
    (hblk : L'.blk = L.blk ∨ L'.blk = w.heap.size) (hs : w.heap.size ≤ w'.heap.size) (hw : ∀ c, c ≠ L'.blk → c < w.heap.size → w'.heap[c]? = w.heap[c]?)
    (hw' : w'.heap[L'.blk]? = some (.cells rs' ty (0, 0))) (hsz' : rs'.size = L'.cp * sz) (hr : RepBlk G sz rs' rows') :
    Rel (G.setRow b L') (h.set b (.row ty sz e' rows')) w' := by
  have x := Ext.setRow G b L L' hL he hq
  have hreal : G.real h b = some L.blk := by unfold Tie.real; rw [hb]; simp [hL]
  have hlt : b < h.length := Rel.real_lt hreal
  have hpos := (R.row b ty sz e rows hb).1
  refine R.put x b L'.blk ?_ ?_ rfl (fun _ _ => rfl) ?_ ?_ ?_ ?_ ?_ hs hw ?_ ?_
  · intro c hc
    rw [List.getElem?_set_ne (by omega)]
  · simp [R.n, Tie.setRow]
  · intro c hc
    simp only [Tie.setRow]
    rw [if_neg hc]
  · intro k' hk'
    unfold Tie.real at hk'
    rw [List.getElem?_set_self hlt] at hk'
    simpa [Tie.setRow] using hk'.symm
  · rcases hblk with e1 | e1
    · rw [e1]; exact (R.low b _ hreal).1
    · rw [e1]; exact R.hb0
  · rcases hblk with e1 | e1
    · rw [e1]; exact (R.low b _ hreal).2
    · rw [e1]; exact R.fz_new
  · intro c hc ec
    rcases hblk with e1 | e1
    · rw [e1] at ec
      exact hc (R.inj c b _ ec hreal)
    · have := R.lt ec
      omega
  · intro t' cs'' ec
    rw [List.getElem?_set_self hlt] at ec
    simp at ec
  · intro t1 sz1 e1 rows1 eq
    rw [List.getElem?_set_self hlt] at eq
    simp at eq
    obtain ⟨rfl, rfl, rfl, rfl⟩ := eq
    exact ⟨hpos, L', rs', by simp [Tie.setRow], hLe, hLs, hcp, hw', hsz', hr.ext x⟩

/-- At the same epoch nothing that is known turns. -/
theorem Tie.setRow_same {G : Tie} {b : Nat} {L : RowLoc} (h : G.rw b = some L) : G.setRow b L = G := by
  unfold Tie.setRow
  congr
  funext c
  by_cases e : c = b
  · rw [if_pos e, e, h]
  · rw [if_neg e]

/-! ### Reading -/

/-- The cells that a pointer points into, and where. -/
def ptrCells (h : Heap) (n : Nat) : V → Option (List V × Nat)
  | .ptr b off => match h[b]? with
    | some (.box _ cs) => some (cs, off)
    | _ => none
  | .rptr b e i off => match rowAt h b e with
    | some (_, rs) => (rs[i]?).bind fun cs => if off + n ≤ cs.length then some (cs, off) else if i = 0 then some (rs.flatten, off) else none
    | none => none
  | .eptr cs off => some (cs, off)
  | _ => none

theorem loadV_eq (h : Heap) (n : Option Nat) (v : V) : loadV h n v = (ptrCells h (n.getD 1) v).bind fun p => cutCells n p.1 p.2 := by
  cases v <;> simp only [loadV, ptrCells, Option.bind_none, Option.bind_some]
  · split <;> simp_all
  · split
    · rename_i eq
      simp only [eq, Option.bind_assoc]
      congr 1
      funext cs
      split
      · rfl
      · split <;> rfl
    · rename_i eq
      simp [eq]

theorem Rel.rowAt {G : Tie} {h : Heap} {w : World} (R : Rel G h w) {b e sz : Nat} {rows : List (List V)} (hr : rowAt h b e = some (sz, rows)) :
    ∃ t, h[b]? = some (.row t sz e rows) ∧ 0 < sz ∧ ∃ L rs, G.rw b = some L ∧ L.e = e ∧ L.sz = sz ∧ rows.length ≤ L.cp ∧
      w.heap[L.blk]? = some (.cells rs t (0, 0)) ∧ rs.size = L.cp * sz ∧ RepBlk G sz rs rows := by
  unfold Am.rowAt at hr
  split at hr
  · rename_i t sz' e' rs' eq
    split at hr
    · rename_i ee
      simp at hr
      obtain ⟨rfl, rfl⟩ := hr
      subst ee
      exact ⟨t, eq, R.row b _ _ _ _ eq⟩
    · simp at hr
  · simp at hr

theorem cell_of_heap {w : World} {b o : Nat} {rs : Array Value} {ty : TypeId} {fr : Nat × Nat} (h : w.heap[b]? = some (.cells rs ty fr)) : w.cell? ⟨b, o, none⟩ = rs[o]? := by
  unfold World.cell?
  simp [h]

/-- A row's cells, one behind the other. -/
theorem flat_get {G : Tie} {sz : Nat} {rs : Array Value} : ∀ {rows : List (List V)} {o : Nat}, (∀ (i : Nat) (cs : List V), rows[i]? = some cs → cs.length = sz ∧ ∀ (j : Nat) (c : V), cs[j]? = some c → ∃ v, rs[o + i * sz + j]? = some v ∧ RepV G c v) →
    ∀ (p : Nat) (c : V), rows.flatten[p]? = some c → ∃ v, rs[o + p]? = some v ∧ RepV G c v
  | [], o, h, p, c, hc => by simp at hc
  | r :: rows, o, h, p, c, hc => by
    obtain ⟨h1, h2⟩ := h 0 r rfl
    rw [List.flatten_cons] at hc
    by_cases hp : p < r.length
    · rw [List.getElem?_append_left hp] at hc
      simpa using h2 p c hc
    · rw [List.getElem?_append_right (by omega)] at hc
      have := flat_get (rows := rows) (o := o + sz) (fun i cs hi => by
        obtain ⟨h3, h4⟩ := h (i + 1) cs (by simpa using hi)
        refine ⟨h3, fun j c hj => ?_⟩
        have := h4 j c hj
        rwa [show o + (i + 1) * sz + j = o + sz + i * sz + j by rw [Nat.add_mul]; omega] at this) _ _ hc
      rwa [show o + sz + (p - r.length) = o + p by omega] at this

theorem RepBlk.flat {G : Tie} {sz : Nat} {rs : Array Value} {rows : List (List V)} (hB : RepBlk G sz rs rows) : ∀ (p : Nat) (c : V), rows.flatten[p]? = some c → ∃ v, rs[p]? = some v ∧ RepV G c v := by
  intro p c hc
  have := flat_get (rs := rs) (rows := rows) (o := 0) (fun i cs hi => ⟨(hB i cs hi).1, fun j c hj => by simpa using (hB i cs hi).2.2 j c hj⟩) p c hc
  simpa using this

theorem flat_length {G : Tie} {sz : Nat} {rs : Array Value} {rows : List (List V)} (hB : RepBlk G sz rs rows) : rows.flatten.length = rows.length * sz := by
  have h : ∀ l : List (List V), (∀ r ∈ l, r.length = sz) → l.flatten.length = l.length * sz := by
    intro l
    induction l with
    | nil => simp
    | cons r l ih =>
      intro hr
      simp only [List.flatten_cons, List.length_append, List.length_cons]
      rw [ih fun x hx => hr x (by simp [hx]), hr r (by simp), Nat.add_mul]
      omega
  refine h rows fun r hr => ?_
  obtain ⟨i, hi⟩ := List.getElem?_of_mem hr
  exact (hB i r hi).1

theorem flat_one {G : Tie} {sz : Nat} {rs : Array Value} {rows : List (List V)} (hB : RepBlk G sz rs rows) : rows.flatten.all oneCell = true := by
  rw [List.all_eq_true]
  intro v hv
  obtain ⟨r, hr, hv⟩ := List.mem_flatten.1 hv
  obtain ⟨i, hi⟩ := List.getElem?_of_mem hr
  exact List.all_eq_true.1 (hB i r hi).2.1 v hv

theorem chunk_length (sz : Nat) (l : List V) : (chunk sz l).length = l.length / sz := by simp [chunk]

theorem chunk_get {sz : Nat} {l : List V} {i : Nat} {cs : List V} (h : (chunk sz l)[i]? = some cs) : i < l.length / sz ∧ cs = (l.drop (i * sz)).take sz := by
  simp only [chunk, List.getElem?_map, Option.map_eq_some_iff] at h
  obtain ⟨k, hk, rfl⟩ := h
  have hkl : i < l.length / sz := by
    rcases Nat.lt_or_ge i (l.length / sz) with hl | hl
    · exact hl
    · rw [List.getElem?_eq_none (by simpa using hl)] at hk
      simp at hk
  rw [List.getElem?_range hkl] at hk
  injection hk with hk
  subst hk
  exact ⟨hkl, rfl⟩

theorem chunk_mem {sz : Nat} {l r : List V} (h : r ∈ chunk sz l) : ∀ v ∈ r, v ∈ l := by
  simp only [chunk, List.mem_map] at h
  obtain ⟨i, _, rfl⟩ := h
  exact fun v hv => List.mem_of_mem_drop (List.mem_of_mem_take hv)

/-- Cells laid as a row. -/
theorem chunk_blk {G : Tie} {sz : Nat} {rs : Array Value} {l : List V} (hpos : 0 < sz) (h1 : l.all oneCell = true) (h : ∀ (p : Nat) (c : V), l[p]? = some c → ∃ v, rs[p]? = some v ∧ RepV G c v) : RepBlk G sz rs (chunk sz l) := by
  intro i cs hi
  obtain ⟨hl, rfl⟩ := chunk_get hi
  have hroom : i * sz + sz ≤ l.length := by
    have h2 : (i + 1) * sz ≤ l.length / sz * sz := Nat.mul_le_mul_right _ hl
    have h3 := Nat.div_mul_le_self l.length sz
    rw [Nat.add_mul] at h2
    omega
  refine ⟨by simp; omega, ?_, fun j c hj => ?_⟩
  · rw [List.all_eq_true] at h1 ⊢
    exact fun v hv => h1 v (List.mem_of_mem_drop (List.mem_of_mem_take hv))
  · rw [List.getElem?_take] at hj
    split at hj
    · rw [List.getElem?_drop] at hj
      exact h _ _ hj
    · simp at hj

/-- What a pointer points at, in the machine's memory. -/
theorem Rel.cells {G : Tie} {h : Heap} {w : World} (R : Rel G h w) {v : V} {r : Value} {cs : List V} {off n : Nat} (hp : ptrCells h n v = some (cs, off)) (hv : RepV G v r) :
    ∃ b o, r = .pointer (some ⟨b, o, none⟩) ∧ ∀ j c, cs[off + j]? = some c → ∃ rv, w.cell? ⟨b, o + j, none⟩ = some rv ∧ RepV G c rv := by
  cases v <;> simp only [ptrCells] at hp
  case ptr b' off' =>
    simp only [RepV] at hv
    split at hp
    · rename_i cs' eq
      simp at hp
      obtain ⟨rfl, rfl⟩ := hp
      obtain ⟨_, rs, hw, hl⟩ := R.box _ _ _ eq
      refine ⟨_, _, hv.2, fun j c hc => ?_⟩
      obtain ⟨rv, h1, h2⟩ := hl.get hc
      exact ⟨rv, by rw [cell_of_heap hw, ← Array.getElem?_toList]; exact h1, h2⟩
    · simp at hp
  case rptr b' e i off' =>
    simp only [RepV] at hv
    split at hp
    · rename_i sz rs' eq
      simp only [Option.bind_eq_some_iff] at hp
      obtain ⟨cs', hc', hp⟩ := hp
      obtain ⟨ty, _, hpos, L, rs, hL, he, hs, hcp, hw, hsz, hB⟩ := R.rowAt eq
      obtain ⟨_, a, rfl, ha⟩ := hv
      have := (ha L hL).2 he.symm
      subst this
      refine ⟨_, _, rfl, fun j c hc => ?_⟩
      split at hp
      · simp only [Option.some.injEq, Prod.mk.injEq] at hp
        obtain ⟨rfl, rfl⟩ := hp
        obtain ⟨_, _, h3⟩ := hB i _ hc'
        obtain ⟨rv, h4, h5⟩ := h3 _ _ hc
        exact ⟨rv, by rw [cell_of_heap hw, hs, Nat.add_assoc]; exact h4, h5⟩
      · split at hp
        · rename_i hi0
          subst hi0
          simp only [Option.some.injEq, Prod.mk.injEq] at hp
          obtain ⟨rfl, rfl⟩ := hp
          obtain ⟨rv, h4, h5⟩ := RepBlk.flat hB _ _ hc
          exact ⟨rv, by rw [cell_of_heap hw, Nat.zero_mul, Nat.zero_add]; exact h4, h5⟩
        · simp at hp
    · simp at hp
  case eptr cs' off' =>
    simp at hp
    obtain ⟨rfl, rfl⟩ := hp
    simp only [RepV] at hv
    obtain ⟨b, o, rfl, _, hF⟩ := hv
    refine ⟨_, _, rfl, fun j c hc => ?_⟩
    obtain ⟨rv, h1, h2⟩ := hF.get hc
    exact ⟨rv, by rw [Nat.add_assoc]; exact R.fz _ _ _ h1, h2⟩
  all_goals simp at hp

theorem cut_cells {G : Tie} {w : World} {b o : Nat} {cs : List V} {off k : Nat} (h : ∀ j c, cs[off + j]? = some c → ∃ rv, w.cell? ⟨b, o + j, none⟩ = some rv ∧ RepV G c rv) (hk : off + k ≤ cs.length) :
    ∃ rs : List Value, rs.length = k ∧ RepL G ((cs.drop off).take k) rs ∧ ∀ j v, rs[j]? = some v → w.cell? ⟨b, o + j, none⟩ = some v := by
  induction k generalizing off o with
  | zero => exact ⟨[], rfl, by simp [RepL], by simp⟩
  | succ k ih =>
    have hlt : off < cs.length := by omega
    obtain ⟨rv, h1, h2⟩ := h 0 cs[off] (by simp [hlt])
    obtain ⟨rs, h3, h4, h5⟩ := ih (off := off + 1) (o := o + 1) (fun j c hc => by
      have := h (j + 1) c (by rwa [show off + (j + 1) = off + 1 + j by omega])
      rwa [show o + (j + 1) = o + 1 + j by omega] at this) (by omega)
    refine ⟨rv :: rs, by simp [h3], ?_, ?_⟩
    · rw [List.drop_eq_getElem_cons hlt, List.take_succ_cons]
      simp only [RepL]
      exact ⟨rv, rs, rfl, h2, h4⟩
    · intro j v hv
      cases j with
      | zero => simp at hv; subst hv; simpa using h1
      | succ j =>
        have := h5 j v (by simpa using hv)
        rwa [show o + (j + 1) = o + 1 + j by omega]

theorem shape_run {P : Program} {t : TypeId} {n : Option Nat} (h : shapeO P t = some n) (w : World) :
    (match n with
     | none => (isAgg t).run P w = .ok false w
     | some k => (isAgg t).run P w = .ok true w ∧ (sizeOf t).run P w = .ok k w) := by
  simp only [shapeO, aggT, sizeO, Option.bind_eq_some_iff, Option.map_eq_some_iff] at h
  obtain ⟨a, ⟨d, hd, ha⟩, m, ⟨i, hi, hm⟩, hn⟩ := h
  have hsz : (sizeOf t).run P w = .ok m w := by
    simp [sizeOf, typeInfo, hi, hm]
  split at hn
  · rename_i ht
    injection hn with hn
    subst hn
    refine ⟨?_, hsz⟩
    simp only [isAgg, Sem.run_bind, run_underlying hd w, Result.andThen]
    cases d <;> simp_all
  · rename_i ht
    split at hn
    · injection hn with hn
      subst hn
      simp only [isAgg, Sem.run_bind, run_underlying hd w, Result.andThen]
      cases d <;> simp_all
    · simp at hn

/-- A load. -/
theorem load_run {P : Program} {G : Tie} {h : Heap} {w : World} (R : Rel G h w) {t : TypeId} {n : Option Nat} (hn : shapeO P t = some n) {v x : V} {r : Value}
    (hv : RepV G v r) (hx : loadV h n v = some x) : ∃ rx, (Instr.loadAt t r).run P w = .ok rx w ∧ RepV G x rx := by
  rw [loadV_eq, Option.bind_eq_some_iff] at hx
  obtain ⟨⟨cs, off⟩, hp, hc⟩ := hx
  obtain ⟨b, o, rfl, hcell⟩ := R.cells hp hv
  have hs := shape_run hn w
  cases n with
  | none =>
    simp only [cutCells] at hc
    obtain ⟨rv, h1, h2⟩ := hcell 0 x (by simpa using hc)
    refine ⟨rv, ?_, h2⟩
    simp only [Nat.add_zero] at h1
    simp [Instr.loadAt, Instr.sureAddr, loadVar, hs, h1]
  | some k =>
    simp only [cutCells] at hc
    split at hc
    · rename_i hle
      injection hc with hc
      subst hc
      obtain ⟨rs, h1, h2, h3⟩ := cut_cells hcell hle
      refine ⟨.agg rs.toArray, ?_, ?_⟩
      · have := run_loadCells_list (P := P) w ⟨b, o, none⟩ rs (fun j v hj => by rw [add_none]; exact h3 j v hj)
        rw [h1] at this
        simp [Instr.loadAt, Instr.sureAddr, loadVar, hs.1, hs.2, this]
      · simp only [RepV]
        exact ⟨_, rfl, by simpa using h2⟩
    · simp at hc

end Go.Am
