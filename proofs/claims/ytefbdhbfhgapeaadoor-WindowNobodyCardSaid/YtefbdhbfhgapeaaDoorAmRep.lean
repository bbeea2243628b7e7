/- Am: what abstract values and memory stand for in the machine's own memory. -/
import Derived.Test.YtefbdhbfhgapeaaDoorAmWp
import Derived.Laws.CopyRow
import Derived.Laws.AppendOwn
import Derived.Below
namespace Go.Am
open Go.RowKit (Below)

structure RowLoc where
  e : Nat
  sz : Nat
  blk : Nat
  cp : Nat

/-- What ties abstract memory to the machine's: cells that are never written again ('fz'), how many blocks there are, where boxes and rows lie. Blocks below 'b0' are never written. -/
structure Tie where
  fz : Nat → Nat → Option Value
  n : Nat
  bx : Nat → Nat
  rw : Nat → Option RowLoc
  b0 : Nat

mutual
def RepV (G : Tie) : V → Value → Prop
  | .undef, _ => True
  | .sc v, r => r = v ∧ v.oneCell' = true
  | .agg cs, r => ∃ rs : Array Value, r = .agg rs ∧ RepL G cs rs.toList
  | .tup cs, r => ∃ rs : Array Value, r = .tuple rs ∧ RepL G cs rs.toList
  | .slc ex sz rows, r => ∃ a cap, r = .slice a rows.length cap ∧ rows.length ≤ cap ∧ (ex.isFull = true → cap = rows.length) ∧ (rows.all fun l => l.all ground) = true ∧
      ∃ b o, (rows ≠ [] → a = some ⟨b, o, none⟩) ∧ (ex = .lit → rows ≠ [] → G.b0 ≤ b) ∧ RepRows G sz b o rows
  | .hsl b e off len, r => b < G.n ∧ ∃ a cap, r = .slice (some a) len cap ∧ ∀ L, G.rw b = some L → e ≤ L.e ∧ (e = L.e → len ≤ cap ∧ off + cap ≤ L.cp ∧ (cap ≠ 0 → a = ⟨L.blk, off * L.sz, none⟩))
  | .ptr b off, r => b < G.n ∧ r = .pointer (some ⟨G.bx b, off, none⟩)
  | .rptr b e i off, r => b < G.n ∧ ∃ a, r = .pointer (some a) ∧ ∀ L, G.rw b = some L → e ≤ L.e ∧ (e = L.e → a = ⟨L.blk, i * L.sz + off, none⟩)
  | .eptr cs off, r => ∃ b o, r = .pointer (some ⟨b, o + off, none⟩) ∧ cs.all ground = true ∧ RepF G b o cs
  | .fn f a c, r => ∃ ra rc : Array Value, r = .func f ra rc ∧ RepL G a ra.toList ∧ RepL G c rc.toList
  | .ifc t v, r => ∃ rv, r = .iface t rv ∧ RepV G v rv
  | .mp b, r => b < G.n ∧ r = .map (some (G.bx b))
def RepL (G : Tie) : List V → List Value → Prop
  | [], rs => rs = []
  | c :: cs, rs => ∃ r rest, rs = r :: rest ∧ RepV G c r ∧ RepL G cs rest
def RepF (G : Tie) (b : Nat) : Nat → List V → Prop
  | _, [] => True
  | o, c :: cs => (∃ v, G.fz b o = some v ∧ RepV G c v) ∧ RepF G b (o + 1) cs
def RepRows (G : Tie) (sz b : Nat) : Nat → List (List V) → Prop
  | _, [] => True
  | o, cs :: r => cs.length = sz ∧ RepF G b o cs ∧ RepRows G sz b (o + sz) r
end

/-- G' is G, later. -/
structure Ext (G G' : Tie) : Prop where
  fz : ∀ b o v, G.fz b o = some v → G'.fz b o = some v
  n : G.n ≤ G'.n
  bx : ∀ b, b < G.n → G'.bx b = G.bx b
  rw : ∀ b, b < G.n → ∀ L', G'.rw b = some L' → ∃ L, G.rw b = some L ∧ L.e ≤ L'.e ∧ (L.e = L'.e → L' = L)
  b0 : G'.b0 = G.b0

theorem Ext.refl (G : Tie) : Ext G G := ⟨fun _ _ _ h => h, Nat.le_refl _, fun _ _ => rfl, fun _ _ L h => ⟨L, h, Nat.le_refl _, fun _ => rfl⟩, rfl⟩

theorem Ext.trans {A B C : Tie} (h : Ext A B) (k : Ext B C) : Ext A C where
  fz b o v hv := k.fz _ _ _ (h.fz _ _ _ hv)
  n := Nat.le_trans h.n k.n
  bx b hb := (k.bx b (Nat.lt_of_lt_of_le hb h.n)).trans (h.bx b hb)
  rw b hb L' hL := by
    obtain ⟨L1, h1, l1, e1⟩ := k.rw b (Nat.lt_of_lt_of_le hb h.n) L' hL
    obtain ⟨L2, h2, l2, e2⟩ := h.rw b hb L1 h1
    refine ⟨L2, h2, Nat.le_trans l2 l1, fun e => ?_⟩
    have hA : L1.e = L'.e := by omega
    have hB : L2.e = L1.e := by omega
    rw [e1 hA, e2 hB]
  b0 := k.b0.trans h.b0

mutual
theorem RepV.ext {G G' : Tie} (x : Ext G G') : ∀ {v : V} {r : Value}, RepV G v r → RepV G' v r
  | .undef, _, _ => by simp [RepV]
  | .sc v, r, h => by simpa [RepV] using h
  | .agg cs, r, h => by
    simp only [RepV] at h ⊢
    obtain ⟨rs, e, h⟩ := h
    exact ⟨rs, e, RepL.ext x h⟩
  | .tup cs, r, h => by
    simp only [RepV] at h ⊢
    obtain ⟨rs, e, h⟩ := h
    exact ⟨rs, e, RepL.ext x h⟩
  | .slc ex sz rows, r, h => by
    simp only [RepV] at h ⊢
    obtain ⟨a, cap, e, hl, he, hg, b, o, ha, hb, h⟩ := h
    exact ⟨a, cap, e, hl, he, hg, b, o, ha, by rw [x.b0]; exact hb, RepRows.ext x h⟩
  | .hsl b e off len, r, h => by
    simp only [RepV] at h ⊢
    obtain ⟨hb, a, cap, hr, h⟩ := h
    refine ⟨Nat.lt_of_lt_of_le hb x.n, a, cap, hr, fun L' hL' => ?_⟩
    obtain ⟨L, hL, hle, heq⟩ := x.rw b hb L' hL'
    obtain ⟨h1, h2⟩ := h L hL
    refine ⟨Nat.le_trans h1 hle, fun he => ?_⟩
    have : L.e = L'.e := by omega
    rw [heq this]
    exact h2 (by omega)
  | .ptr b off, r, h => by
    simp only [RepV] at h ⊢
    exact ⟨Nat.lt_of_lt_of_le h.1 x.n, by rw [x.bx b h.1]; exact h.2⟩
  | .rptr b e i off, r, h => by
    simp only [RepV] at h ⊢
    obtain ⟨hb, a, hr, h⟩ := h
    refine ⟨Nat.lt_of_lt_of_le hb x.n, a, hr, fun L' hL' => ?_⟩
    obtain ⟨L, hL, hle, heq⟩ := x.rw b hb L' hL'
    obtain ⟨h1, h2⟩ := h L hL
    refine ⟨Nat.le_trans h1 hle, fun he => ?_⟩
    have : L.e = L'.e := by omega
    rw [heq this]
    exact h2 (by omega)
  | .eptr cs off, r, h => by
    simp only [RepV] at h ⊢
    obtain ⟨b, o, hr, hg, h⟩ := h
    exact ⟨b, o, hr, hg, RepF.ext x h⟩
  | .fn f a c, r, h => by
    simp only [RepV] at h ⊢
    obtain ⟨ra, rc, hr, h1, h2⟩ := h
    exact ⟨ra, rc, hr, RepL.ext x h1, RepL.ext x h2⟩
  | .ifc t v, r, h => by
    simp only [RepV] at h ⊢
    obtain ⟨rv, hr, h⟩ := h
    exact ⟨rv, hr, RepV.ext x h⟩
  | .mp b, r, h => by
    simp only [RepV] at h ⊢
    exact ⟨Nat.lt_of_lt_of_le h.1 x.n, by rw [x.bx b h.1]; exact h.2⟩
theorem RepL.ext {G G' : Tie} (x : Ext G G') : ∀ {v : List V} {r : List Value}, RepL G v r → RepL G' v r
  | [], r, h => by simpa [RepL] using h
  | c :: cs, r, h => by
    simp only [RepL] at h ⊢
    obtain ⟨a, rest, e, h1, h2⟩ := h
    exact ⟨a, rest, e, RepV.ext x h1, RepL.ext x h2⟩
theorem RepF.ext {G G' : Tie} (x : Ext G G') : ∀ {b o : Nat} {v : List V}, RepF G b o v → RepF G' b o v
  | _, _, [], _ => by simp [RepF]
  | b, o, c :: cs, h => by
    simp only [RepF] at h ⊢
    obtain ⟨⟨v, h1, h2⟩, h3⟩ := h
    exact ⟨⟨v, x.fz _ _ _ h1, RepV.ext x h2⟩, RepF.ext x h3⟩
theorem RepRows.ext {G G' : Tie} (x : Ext G G') : ∀ {sz b o : Nat} {v : List (List V)}, RepRows G sz b o v → RepRows G' sz b o v
  | _, _, _, [], _ => by simp [RepRows]
  | sz, b, o, c :: cs, h => by
    simp only [RepRows] at h ⊢
    exact ⟨h.1, RepF.ext x h.2.1, RepRows.ext x h.2.2⟩
end

/-! ### Lists of values -/

theorem RepL.length {G : Tie} : ∀ {cs : List V} {rs : List Value}, RepL G cs rs → rs.length = cs.length
  | [], _, h => by simp only [RepL] at h; simp [h]
  | _ :: cs, _, h => by
    simp only [RepL] at h
    obtain ⟨a, rest, rfl, _, h2⟩ := h
    simp [RepL.length h2]

theorem RepL.get {G : Tie} : ∀ {cs : List V} {rs : List Value}, RepL G cs rs → ∀ {i : Nat} {c : V}, cs[i]? = some c → ∃ r, rs[i]? = some r ∧ RepV G c r
  | [], _, _, i, c, e => by simp at e
  | x :: cs, _, h, i, c, e => by
    simp only [RepL] at h
    obtain ⟨a, rest, rfl, h1, h2⟩ := h
    cases i with
    | zero => simp at e; subst e; exact ⟨a, by simp, h1⟩
    | succ i => simpa using RepL.get h2 (i := i) (by simpa using e)

theorem RepL.of_get {G : Tie} : ∀ {cs : List V} {rs : List Value}, rs.length = cs.length → (∀ (i : Nat) (c : V), cs[i]? = some c → ∃ r, rs[i]? = some r ∧ RepV G c r) → RepL G cs rs
  | [], rs, hl, _ => by simp only [RepL]; simpa using hl
  | c :: cs, [], hl, _ => by simp at hl
  | c :: cs, r :: rs, hl, h => by
    simp only [RepL]
    refine ⟨r, rs, rfl, ?_, RepL.of_get (by simpa using hl) fun i c' e => ?_⟩
    · obtain ⟨r', e', h'⟩ := h 0 c (by simp)
      simp at e'
      exact e' ▸ h'
    · simpa using h (i + 1) c' (by simpa using e)

theorem RepL.append {G : Tie} {cs ds : List V} {rs ss : List Value} (h : RepL G cs rs) (k : RepL G ds ss) : RepL G (cs ++ ds) (rs ++ ss) := by
  induction cs generalizing rs with
  | nil => simp only [RepL] at h; subst h; simpa using k
  | cons c cs ih =>
    simp only [RepL] at h
    obtain ⟨a, rest, rfl, h1, h2⟩ := h
    simp only [List.cons_append, RepL]
    exact ⟨a, rest ++ ss, rfl, h1, ih h2⟩

theorem RepL.take {G : Tie} {cs : List V} {rs : List Value} (h : RepL G cs rs) (k : Nat) : RepL G (cs.take k) (rs.take k) :=
  RepL.of_get (by simp [h.length]) fun i c e => by
    rw [List.getElem?_take] at e ⊢
    split at e
    · rename_i hi
      rw [if_pos hi]
      exact h.get e
    · simp at e

theorem RepL.drop {G : Tie} {cs : List V} {rs : List Value} (h : RepL G cs rs) (k : Nat) : RepL G (cs.drop k) (rs.drop k) :=
  RepL.of_get (by simp [h.length]) fun i c e => by
    rw [List.getElem?_drop] at e ⊢
    exact h.get e

theorem RepF.get {G : Tie} : ∀ {b o : Nat} {cs : List V}, RepF G b o cs → ∀ {i : Nat} {c : V}, cs[i]? = some c → ∃ r, G.fz b (o + i) = some r ∧ RepV G c r
  | _, _, [], _, i, c, e => by simp at e
  | b, o, x :: cs, h, i, c, e => by
    simp only [RepF] at h
    cases i with
    | zero => simp at e; subst e; exact h.1
    | succ i =>
      have := RepF.get h.2 (i := i) (by simpa using e)
      rwa [show o + 1 + i = o + (i + 1) by omega] at this

theorem RepF.of_get {G : Tie} : ∀ {b o : Nat} {cs : List V}, (∀ (i : Nat) (c : V), cs[i]? = some c → ∃ r, G.fz b (o + i) = some r ∧ RepV G c r) → RepF G b o cs
  | _, _, [], _ => by simp [RepF]
  | b, o, x :: cs, h => by
    simp only [RepF]
    refine ⟨by simpa using h 0 x (by simp), RepF.of_get fun i c e => ?_⟩
    have := h (i + 1) c (by simpa using e)
    rwa [show o + (i + 1) = o + 1 + i by omega] at this

theorem RepRows.get {G : Tie} {sz b : Nat} : ∀ {o : Nat} {rows : List (List V)}, RepRows G sz b o rows → ∀ {i : Nat} {cs : List V}, rows[i]? = some cs → cs.length = sz ∧ RepF G b (o + i * sz) cs
  | _, [], _, i, c, e => by simp at e
  | o, x :: rows, h, i, cs, e => by
    simp only [RepRows] at h
    cases i with
    | zero => simp at e; subst e; simpa using ⟨h.1, h.2.1⟩
    | succ i =>
      have := RepRows.get h.2.2 (i := i) (by simpa using e)
      rwa [show o + sz + i * sz = o + (i + 1) * sz by rw [Nat.add_mul]; omega] at this

theorem RepRows.of_get {G : Tie} {sz b : Nat} : ∀ {o : Nat} {rows : List (List V)}, (∀ (i : Nat) (cs : List V), rows[i]? = some cs → cs.length = sz ∧ RepF G b (o + i * sz) cs) → RepRows G sz b o rows
  | _, [], _ => by simp [RepRows]
  | o, x :: rows, h => by
    simp only [RepRows]
    have h0 := h 0 x (by simp)
    refine ⟨h0.1, by simpa using h0.2, RepRows.of_get fun i cs e => ?_⟩
    have := h (i + 1) cs (by simpa using e)
    rwa [show o + (i + 1) * sz = o + sz + i * sz by rw [Nat.add_mul]; omega] at this

theorem RepV.one {G : Tie} {v : V} {r : Value} (h : RepV G v r) (h1 : oneCell v = true) : r.oneCell' = true := by
  cases v <;> simp only [oneCell, RepV, Bool.false_eq_true] at h h1
  · exact h.1 ▸ h.2
  · obtain ⟨a, cap, rfl, _⟩ := h; rfl
  · obtain ⟨_, a, cap, rfl, _⟩ := h; rfl
  · obtain ⟨_, rfl⟩ := h; rfl
  · obtain ⟨_, a, rfl, _⟩ := h; rfl
  · obtain ⟨b, o, rfl, _⟩ := h; rfl
  · obtain ⟨ra, rc, rfl, _⟩ := h; rfl
  · obtain ⟨rv, rfl, _⟩ := h; rfl
  · obtain ⟨_, rfl⟩ := h; rfl

/-- A value's cells stand for its value's cells. -/
theorem RepV.cells {G : Tie} {v : V} {r : Value} (h : RepV G v r) (hu : v ≠ .undef) : RepL G v.cells r.cells.toList := by
  cases v <;> simp only [RepV, V.cells] at h ⊢
  · exact absurd rfl hu
  · obtain ⟨rfl, h1⟩ := h
    cases r <;> simp [Value.oneCell'] at h1 <;> simp [Value.cells, RepL, RepV, Value.oneCell']
  · obtain ⟨rs, rfl, h⟩ := h; simpa [Value.cells] using h
  · obtain ⟨rs, rfl, h⟩ := h; simp [Value.cells, RepL, RepV]; exact h
  · obtain ⟨a, cap, rfl, h⟩ := h
    simp only [Value.cells, RepL]
    exact ⟨_, [], rfl, by simp only [RepV]; exact ⟨a, cap, rfl, h⟩, rfl⟩
  · obtain ⟨hb, a, cap, rfl, h⟩ := h
    simp only [Value.cells, RepL]
    exact ⟨_, [], rfl, by simp only [RepV]; exact ⟨hb, a, cap, rfl, h⟩, rfl⟩
  · obtain ⟨hb, rfl⟩ := h
    simp only [Value.cells, RepL]
    exact ⟨_, [], rfl, by simp [RepV, hb], rfl⟩
  · obtain ⟨hb, a, rfl, h⟩ := h
    simp only [Value.cells, RepL]
    exact ⟨_, [], rfl, by simp only [RepV]; exact ⟨hb, a, rfl, h⟩, rfl⟩
  · obtain ⟨b, o, rfl, h⟩ := h
    simp only [Value.cells, RepL]
    exact ⟨_, [], rfl, by simp only [RepV]; exact ⟨b, o, rfl, h⟩, rfl⟩
  · obtain ⟨ra, rc, rfl, h⟩ := h
    simp only [Value.cells, RepL]
    exact ⟨_, [], rfl, by simp only [RepV]; exact ⟨ra, rc, rfl, h⟩, rfl⟩
  · obtain ⟨rv, rfl, h⟩ := h
    simp only [Value.cells, RepL]
    exact ⟨_, [], rfl, by simp only [RepV]; exact ⟨rv, rfl, h⟩, rfl⟩
  · obtain ⟨hb, rfl⟩ := h
    simp only [Value.cells, RepL]
    exact ⟨_, [], rfl, by simp [RepV, hb], rfl⟩

/-! ### Memory -/

/-- The machine's block of an abstract block. -/
def Tie.real (G : Tie) (h : Heap) (b : Nat) : Option Nat :=
  match h[b]? with
  | some (.box ..) => some (G.bx b)
  | some (.row ..) => (G.rw b).map (·.blk)
  | _ => none

/-- The elements of a row, as the cells of its block. -/
def RepBlk (G : Tie) (sz : Nat) (rs : Array Value) (rows : List (List V)) : Prop :=
  ∀ i cs, rows[i]? = some cs → cs.length = sz ∧ cs.all oneCell = true ∧ ∀ j c, cs[j]? = some c → ∃ v, rs[i * sz + j]? = some v ∧ RepV G c v

structure Rel (G : Tie) (h : Heap) (w : World) : Prop where
  n : G.n = h.length
  fz : ∀ b o v, G.fz b o = some v → w.cell? ⟨b, o, none⟩ = some v
  box : ∀ b t cs, h[b]? = some (.box t cs) → cs.all oneCell = true ∧ ∃ rs, w.heap[G.bx b]? = some (.cells rs t (0, 0)) ∧ RepL G cs rs.toList
  row : ∀ b t sz e rows, h[b]? = some (.row t sz e rows) → 0 < sz ∧ ∃ L rs, G.rw b = some L ∧ L.e = e ∧ L.sz = sz ∧ rows.length ≤ L.cp ∧
    w.heap[L.blk]? = some (.cells rs t (0, 0)) ∧ rs.size = L.cp * sz ∧ RepBlk G sz rs rows
  low : ∀ b k, G.real h b = some k → G.b0 ≤ k ∧ ∀ o, G.fz k o = none
  inj : ∀ b b' k, G.real h b = some k → G.real h b' = some k → b = b'
  hb0 : G.b0 ≤ w.heap.size

theorem RepBlk.ext {G G' : Tie} (x : Ext G G') {sz : Nat} {rs : Array Value} {rows : List (List V)} (h : RepBlk G sz rs rows) : RepBlk G' sz rs rows :=
  fun i cs e => let ⟨h1, h2, h3⟩ := h i cs e; ⟨h1, h2, fun j c ec => let ⟨v, hv, hr⟩ := h3 j c ec; ⟨v, hv, hr.ext x⟩⟩

/-- Only a new block, or no block. -/
theorem Rel.lt {G : Tie} {h : Heap} {w : World} (R : Rel G h w) {b k : Nat} (hk : G.real h b = some k) : k < w.heap.size := by
  unfold Tie.real at hk
  split at hk
  · rename_i t cs e
    obtain ⟨_, rs, hw, _⟩ := R.box b t cs e
    injection hk with hk
    subst hk
    exact (Array.getElem?_eq_some_iff.1 hw).1
  · rename_i t sz e rows eq
    obtain ⟨_, L, rs, hL, _, _, _, hw, _⟩ := R.row b t sz e rows eq
    rw [hL] at hk
    simp at hk
    subst hk
    exact (Array.getElem?_eq_some_iff.1 hw).1
  · simp at hk

/-- Memory that differs in blocks that are nobody's, or new. -/
theorem Rel.world {G : Tie} {h : Heap} {w w' : World} (R : Rel G h w) (hs : w.heap.size ≤ w'.heap.size) (hw : ∀ k, k < w.heap.size → w'.heap[k]? = w.heap[k]?) : Rel G h w' where
  n := R.n
  fz b o v hv := by
    have := R.fz b o v hv
    have hb : b < w.heap.size := by
      unfold World.cell? at this
      rcases Nat.lt_or_ge b w.heap.size with hb | hb
      · exact hb
      · simp [Array.getElem?_eq_none hb] at this
    unfold World.cell? at this ⊢
    rwa [hw b hb]
  box b t cs e := by
    obtain ⟨h1, rs, h2, h3⟩ := R.box b t cs e
    exact ⟨h1, rs, by rw [hw _ (Array.getElem?_eq_some_iff.1 h2).1]; exact h2, h3⟩
  row b t sz e rows eq := by
    obtain ⟨h0, L, rs, h1, h2, h3, h4, h5, h6⟩ := R.row b t sz e rows eq
    exact ⟨h0, L, rs, h1, h2, h3, h4, by rw [hw _ (Array.getElem?_eq_some_iff.1 h5).1]; exact h5, h6⟩
  low := R.low
  inj := R.inj
  hb0 := Nat.le_trans R.hb0 hs

/-- The slots of a frame. -/
def RepEnv (G : Tie) (en : Env) (tmps : Array Value) : Prop := ∀ t, RepV G (en t) (tmps.getD t undef)

theorem RepEnv.ext {G G' : Tie} (x : Ext G G') {en : Env} {tmps : Array Value} (h : RepEnv G en tmps) : RepEnv G' en tmps := fun t => (h t).ext x

theorem RepEnv.put {G : Tie} {en : Env} {tmps : Array Value} (h : RepEnv G en tmps) {t : Nat} (ht : t < tmps.size) {v : V} {r : Value} (hv : RepV G v r) :
    RepEnv G (en.upd t v) (tmps.setIfInBounds t r) := by
  intro x
  unfold Env.upd
  by_cases e : x = t
  · subst e
    rw [if_pos rfl]
    simpa [Array.getD, ht] using hv
  · rw [if_neg e]
    have := h x
    simp only [Array.getD] at this ⊢
    split
    · rename_i hx
      have hx' : x < tmps.size := by simpa using hx
      rw [dif_pos hx'] at this
      simp only [Array.getInternal_eq_getElem] at this ⊢
      rw [Array.getElem_setIfInBounds_ne]
      · exact this
      · omega
    · rename_i hx
      rw [dif_neg (by simpa using hx)] at this
      exact this

end Go.Am
