/- The abstract machine and what is proved in it, part 2. -/
import Derived.Test.YtmlidlbchidgdaaGreatDoorAm1
import Derived.Laws.CopyRow
import Derived.Laws.AppendOwn
import Derived.Below
import Derived.Laws.StructEq
import Derived.Laws.IdiomStrings
set_option linter.unusedVariables false
set_option linter.unusedSimpArgs false
namespace Go.Am
section
open Go.RowKit (Below)
structure RowLoc where
  e : Nat
  sz : Nat
  blk : Nat
  cp : Nat
  vis : Nat
structure Tie where
  fz : Nat → Nat → Option Value
  n : Nat
  bx : Nat → Nat
  rw : Nat → Option RowLoc
  b0 : Nat
  kp : Nat → Bool := fun _ => false
mutual
def RepV (G : Tie) : V → Value → Prop
  | .undef, _ => True
  | .sc v, r => r = v ∧ v.oneCell' = true
  | .agg cs, r => ∃ rs : Array Value, r = .agg rs ∧ RepL G cs rs.toList
  | .tup cs, r => ∃ rs : Array Value, r = .tuple rs ∧ RepL G cs rs.toList
  | .slc ex sz rows, r => ∃ a cap, r = .slice a rows.length cap ∧ rows.length ≤ cap ∧ (ex.isFull = true → cap = rows.length) ∧ (rows.all fun l => l.all ground) = true ∧
      ∃ b o, (rows ≠ [] → a = some ⟨b, o, none⟩) ∧ (ex = .lit → rows ≠ [] → G.b0 ≤ b) ∧ RepRows G sz b o rows
  | .hsl b e off len, r => b < G.n ∧ ∃ a cap, r = .slice (some a) len cap ∧ ∀ L, G.rw b = some L → e ≤ L.e ∧ (e = L.e → len ≤ cap ∧ (off + cap ≤ L.cp ∧ L.vis ≤ off + cap) ∧ (cap ≠ 0 → a = ⟨L.blk, off * L.sz, none⟩))
  | .ptr b off, r => b < G.n ∧ r = .pointer (some ⟨G.bx b, off, none⟩)
  | .rptr b e i off, r => b < G.n ∧ ∃ a, r = .pointer (some a) ∧ ∀ L, G.rw b = some L → e ≤ L.e ∧ (e = L.e → a = ⟨L.blk, i * L.sz + off, none⟩)
  | .eptr cs off, r => ∃ b o, r = .pointer (some ⟨b, o + off, none⟩) ∧ cs.all ground = true ∧ RepF G b o cs
  | .fn f a c, r => ∃ ra rc : Array Value, r = .func f ra rc ∧ RepL G a ra.toList ∧ RepL G c rc.toList
  | .ifc t v, r => ∃ rv, r = .iface t rv ∧ RepV G v rv
  | .mp b, r => b < G.n ∧ r = .map (some (G.bx b))
  | .opq, r => r.oneCell' = true
def RepL (G : Tie) : List V → List Value → Prop
  | [], rs => rs = []
  | c :: cs, rs => ∃ r rest, rs = r :: rest ∧ RepV G c r ∧ RepL G cs rest
def RepF (G : Tie) (b : Nat) : Nat → List V → Prop
  | _, [] => True
  | o, c :: cs => (∃ v, G.fz b o = some v ∧ RepV G c v) ∧ RepF G b (o + 1) cs
def RepRows (G : Tie) (sz b : Nat) : Nat → List (List V) → Prop
  | _, [] => True
  | o, cs :: r => cs.length = sz ∧ RepF G b o cs ∧ RepRows G sz b (o + sz) r
end
structure Ext0 (G G' : Tie) : Prop where
  fz : ∀ b o v, G.fz b o = some v → G'.fz b o = some v
  n : G.n ≤ G'.n
  bx : ∀ b, b < G.n → G'.bx b = G.bx b
  rw : ∀ b, b < G.n → ∀ L', G'.rw b = some L' → ∃ L, G.rw b = some L ∧ L.e ≤ L'.e ∧ (L.e = L'.e → L' = L)
  b0 : G'.b0 = G.b0
structure Ext (G G' : Tie) : Prop extends Ext0 G G' where
  kp : G'.kp = G.kp
theorem Ext.refl (G : Tie) : Ext G G := ⟨⟨fun _ _ _ h => h, Nat.le_refl _, fun _ _ => rfl, fun _ _ L h => ⟨L, h, Nat.le_refl _, fun _ => rfl⟩, rfl⟩, rfl⟩
theorem Ext0.trans {A B C : Tie} (h : Ext0 A B) (k : Ext0 B C) : Ext0 A C where
  fz b o v hv := k.fz _ _ _ (h.fz _ _ _ hv)
  n := Nat.le_trans h.n k.n
  bx b hb := (k.bx b (Nat.lt_of_lt_of_le hb h.n)).trans (h.bx b hb)
  rw b hb L' hL := by
    obtain ⟨L1, h1, l1, e1⟩ := k.rw b (Nat.lt_of_lt_of_le hb h.n) L' hL
    obtain ⟨L2, h2, l2, e2⟩ := h.rw b hb L1 h1
    refine ⟨L2, h2, Nat.le_trans l2 l1, fun e => ?_⟩
    have hA : L1.e = L'.e := by omega
    have hB : L2.e = L1.e := by omega
    rw [e1 hA, e2 hB]
  b0 := k.b0.trans h.b0
theorem Ext.trans {A B C : Tie} (h : Ext A B) (k : Ext B C) : Ext A C := ⟨h.toExt0.trans k.toExt0, k.kp.trans h.kp⟩
mutual
theorem RepV.ext0 {G G' : Tie} (x : Ext0 G G') : ∀ {v : V} {r : Value}, RepV G v r → RepV G' v r
  | .undef, _, _ => by simp [RepV]
  | .sc v, r, h => by simpa [RepV] using h
  | .agg cs, r, h => by
    simp only [RepV] at h ⊢
    obtain ⟨rs, e, h⟩ := h
    exact ⟨rs, e, RepL.ext0 x h⟩
  | .tup cs, r, h => by
    simp only [RepV] at h ⊢
    obtain ⟨rs, e, h⟩ := h
    exact ⟨rs, e, RepL.ext0 x h⟩
  | .slc ex sz rows, r, h => by
    simp only [RepV] at h ⊢
    obtain ⟨a, cap, e, hl, he, hg, b, o, ha, hb, h⟩ := h
    exact ⟨a, cap, e, hl, he, hg, b, o, ha, by rw [x.b0]; exact hb, RepRows.ext0 x h⟩
  | .hsl b e off len, r, h => by
    simp only [RepV] at h ⊢
    obtain ⟨hb, a, cap, hr, h⟩ := h
    refine ⟨Nat.lt_of_lt_of_le hb x.n, a, cap, hr, fun L' hL' => ?_⟩
    obtain ⟨L, hL, hle, heq⟩ := x.rw b hb L' hL'
    obtain ⟨h1, h2⟩ := h L hL
    refine ⟨Nat.le_trans h1 hle, fun he => ?_⟩
    have : L.e = L'.e := by omega
    rw [heq this]
    exact h2 (by omega)
  | .ptr b off, r, h => by
    simp only [RepV] at h ⊢
    exact ⟨Nat.lt_of_lt_of_le h.1 x.n, by rw [x.bx b h.1]; exact h.2⟩
  | .rptr b e i off, r, h => by
    simp only [RepV] at h ⊢
    obtain ⟨hb, a, hr, h⟩ := h
    refine ⟨Nat.lt_of_lt_of_le hb x.n, a, hr, fun L' hL' => ?_⟩
    obtain ⟨L, hL, hle, heq⟩ := x.rw b hb L' hL'
    obtain ⟨h1, h2⟩ := h L hL
    refine ⟨Nat.le_trans h1 hle, fun he => ?_⟩
    have : L.e = L'.e := by omega
    rw [heq this]
    exact h2 (by omega)
  | .eptr cs off, r, h => by
    simp only [RepV] at h ⊢
    obtain ⟨b, o, hr, hg, h⟩ := h
    exact ⟨b, o, hr, hg, RepF.ext0 x h⟩
  | .fn f a c, r, h => by
    simp only [RepV] at h ⊢
    obtain ⟨ra, rc, hr, h1, h2⟩ := h
    exact ⟨ra, rc, hr, RepL.ext0 x h1, RepL.ext0 x h2⟩
  | .ifc t v, r, h => by
    simp only [RepV] at h ⊢
    obtain ⟨rv, hr, h⟩ := h
    exact ⟨rv, hr, RepV.ext0 x h⟩
  | .mp b, r, h => by
    simp only [RepV] at h ⊢
    exact ⟨Nat.lt_of_lt_of_le h.1 x.n, by rw [x.bx b h.1]; exact h.2⟩
  | .opq, r, h => by
    simp only [RepV] at h ⊢
    exact h
theorem RepL.ext0 {G G' : Tie} (x : Ext0 G G') : ∀ {v : List V} {r : List Value}, RepL G v r → RepL G' v r
  | [], r, h => by simpa [RepL] using h
  | c :: cs, r, h => by
    simp only [RepL] at h ⊢
    obtain ⟨a, rest, e, h1, h2⟩ := h
    exact ⟨a, rest, e, RepV.ext0 x h1, RepL.ext0 x h2⟩
theorem RepF.ext0 {G G' : Tie} (x : Ext0 G G') : ∀ {b o : Nat} {v : List V}, RepF G b o v → RepF G' b o v
  | _, _, [], _ => by simp [RepF]
  | b, o, c :: cs, h => by
    simp only [RepF] at h ⊢
    obtain ⟨⟨v, h1, h2⟩, h3⟩ := h
    exact ⟨⟨v, x.fz _ _ _ h1, RepV.ext0 x h2⟩, RepF.ext0 x h3⟩
theorem RepRows.ext0 {G G' : Tie} (x : Ext0 G G') : ∀ {sz b o : Nat} {v : List (List V)}, RepRows G sz b o v → RepRows G' sz b o v
  | _, _, _, [], _ => by simp [RepRows]
  | sz, b, o, c :: cs, h => by
    simp only [RepRows] at h ⊢
    exact ⟨h.1, RepF.ext0 x h.2.1, RepRows.ext0 x h.2.2⟩
end
theorem RepV.ext {G G' : Tie} (x : Ext G G') {v : V} {r : Value} (h : RepV G v r) : RepV G' v r := h.ext0 x.toExt0
theorem RepL.ext {G G' : Tie} (x : Ext G G') {v : List V} {r : List Value} (h : RepL G v r) : RepL G' v r := RepL.ext0 x.toExt0 h
theorem RepF.ext {G G' : Tie} (x : Ext G G') {b o : Nat} {v : List V} (h : RepF G b o v) : RepF G' b o v := RepF.ext0 x.toExt0 h
theorem RepRows.ext {G G' : Tie} (x : Ext G G') {sz b o : Nat} {v : List (List V)} (h : RepRows G sz b o v) : RepRows G' sz b o v := RepRows.ext0 x.toExt0 h
theorem RepL.length {G : Tie} : ∀ {cs : List V} {rs : List Value}, RepL G cs rs → rs.length = cs.length
  | [], _, h => by simp only [RepL] at h; simp [h]
  | _ :: cs, _, h => by
    simp only [RepL] at h
    obtain ⟨a, rest, rfl, _, h2⟩ := h
    simp [RepL.length h2]
theorem RepL.get {G : Tie} : ∀ {cs : List V} {rs : List Value}, RepL G cs rs → ∀ {i : Nat} {c : V}, cs[i]? = some c → ∃ r, rs[i]? = some r ∧ RepV G c r
  | [], _, _, i, c, e => by simp at e
  | x :: cs, _, h, i, c, e => by
    simp only [RepL] at h
    obtain ⟨a, rest, rfl, h1, h2⟩ := h
    cases i with
    | zero => simp at e; subst e; exact ⟨a, by simp, h1⟩
    | succ i => simpa using RepL.get h2 (i := i) (by simpa using e)
theorem RepL.of_get {G : Tie} : ∀ {cs : List V} {rs : List Value}, rs.length = cs.length → (∀ (i : Nat) (c : V), cs[i]? = some c → ∃ r, rs[i]? = some r ∧ RepV G c r) → RepL G cs rs
  | [], rs, hl, _ => by simp only [RepL]; simpa using hl
  | c :: cs, [], hl, _ => by simp at hl
  | c :: cs, r :: rs, hl, h => by
    simp only [RepL]
    refine ⟨r, rs, rfl, ?_, RepL.of_get (by simpa using hl) fun i c' e => ?_⟩
    · obtain ⟨r', e', h'⟩ := h 0 c (by simp)
      simp at e'
      exact e' ▸ h'
    · simpa using h (i + 1) c' (by simpa using e)
theorem RepL.append {G : Tie} {cs ds : List V} {rs ss : List Value} (h : RepL G cs rs) (k : RepL G ds ss) : RepL G (cs ++ ds) (rs ++ ss) := by
  induction cs generalizing rs with
  | nil => simp only [RepL] at h; subst h; simpa using k
  | cons c cs ih =>
    simp only [RepL] at h
    obtain ⟨a, rest, rfl, h1, h2⟩ := h
    simp only [List.cons_append, RepL]
    exact ⟨a, rest ++ ss, rfl, h1, ih h2⟩
theorem RepL.take {G : Tie} {cs : List V} {rs : List Value} (h : RepL G cs rs) (k : Nat) : RepL G (cs.take k) (rs.take k) :=
  RepL.of_get (by simp [h.length]) fun i c e => by
    rw [List.getElem?_take] at e ⊢
    split at e
    · rename_i hi
      rw [if_pos hi]
      exact h.get e
    · simp at e
theorem RepL.drop {G : Tie} {cs : List V} {rs : List Value} (h : RepL G cs rs) (k : Nat) : RepL G (cs.drop k) (rs.drop k) :=
  RepL.of_get (by simp [h.length]) fun i c e => by
    rw [List.getElem?_drop] at e ⊢
    exact h.get e
theorem RepF.get {G : Tie} : ∀ {b o : Nat} {cs : List V}, RepF G b o cs → ∀ {i : Nat} {c : V}, cs[i]? = some c → ∃ r, G.fz b (o + i) = some r ∧ RepV G c r
  | _, _, [], _, i, c, e => by simp at e
  | b, o, x :: cs, h, i, c, e => by
    simp only [RepF] at h
    cases i with
    | zero => simp at e; subst e; exact h.1
    | succ i =>
      have := RepF.get h.2 (i := i) (by simpa using e)
      rwa [show o + 1 + i = o + (i + 1) by omega] at this
theorem RepF.of_get {G : Tie} : ∀ {b o : Nat} {cs : List V}, (∀ (i : Nat) (c : V), cs[i]? = some c → ∃ r, G.fz b (o + i) = some r ∧ RepV G c r) → RepF G b o cs
  | _, _, [], _ => by simp [RepF]
  | b, o, x :: cs, h => by
    simp only [RepF]
    refine ⟨by simpa using h 0 x (by simp), RepF.of_get fun i c e => ?_⟩
    have := h (i + 1) c (by simpa using e)
    rwa [show o + (i + 1) = o + 1 + i by omega] at this
theorem RepRows.get {G : Tie} {sz b : Nat} : ∀ {o : Nat} {rows : List (List V)}, RepRows G sz b o rows → ∀ {i : Nat} {cs : List V}, rows[i]? = some cs → cs.length = sz ∧ RepF G b (o + i * sz) cs
  | _, [], _, i, c, e => by simp at e
  | o, x :: rows, h, i, cs, e => by
    simp only [RepRows] at h
    cases i with
    | zero => simp at e; subst e; simpa using ⟨h.1, h.2.1⟩
    | succ i =>
      have := RepRows.get h.2.2 (i := i) (by simpa using e)
      rwa [show o + sz + i * sz = o + (i + 1) * sz by rw [Nat.add_mul]; omega] at this
theorem RepRows.of_get {G : Tie} {sz b : Nat} : ∀ {o : Nat} {rows : List (List V)}, (∀ (i : Nat) (cs : List V), rows[i]? = some cs → cs.length = sz ∧ RepF G b (o + i * sz) cs) → RepRows G sz b o rows
  | _, [], _ => by simp [RepRows]
  | o, x :: rows, h => by
    simp only [RepRows]
    have h0 := h 0 x (by simp)
    refine ⟨h0.1, by simpa using h0.2, RepRows.of_get fun i cs e => ?_⟩
    have := h (i + 1) cs (by simpa using e)
    rwa [show o + (i + 1) * sz = o + sz + i * sz by rw [Nat.add_mul]; omega] at this
theorem RepV.one {G : Tie} {v : V} {r : Value} (h : RepV G v r) (h1 : zm v = true) : r.oneCell' = true := by
  cases v <;> simp only [zm, RepV, Bool.false_eq_true] at h h1
  · exact h.1 ▸ h.2
  · obtain ⟨a, cap, rfl, _⟩ := h; rfl
  · obtain ⟨_, a, cap, rfl, _⟩ := h; rfl
  · obtain ⟨_, rfl⟩ := h; rfl
  · obtain ⟨_, a, rfl, _⟩ := h; rfl
  · obtain ⟨b, o, rfl, _⟩ := h; rfl
  · obtain ⟨ra, rc, rfl, _⟩ := h; rfl
  · obtain ⟨rv, rfl, _⟩ := h; rfl
  · obtain ⟨_, rfl⟩ := h; rfl
  · exact h
theorem RepV.cells {G : Tie} {v : V} {r : Value} (h : RepV G v r) (hu : v ≠ .undef) : RepL G v.cells r.cells.toList := by
  cases v <;> simp only [RepV, V.cells] at h ⊢
  · exact absurd rfl hu
  · obtain ⟨rfl, h1⟩ := h
    cases r <;> simp [Value.oneCell'] at h1 <;> simp [Value.cells, RepL, RepV, Value.oneCell']
  · obtain ⟨rs, rfl, h⟩ := h; simpa [Value.cells] using h
  · obtain ⟨rs, rfl, h⟩ := h; simp [Value.cells, RepL, RepV]; exact h
  · obtain ⟨a, cap, rfl, h⟩ := h
    simp only [Value.cells, RepL]
    exact ⟨_, [], rfl, by simp only [RepV]; exact ⟨a, cap, rfl, h⟩, rfl⟩
  · obtain ⟨hb, a, cap, rfl, h⟩ := h
    simp only [Value.cells, RepL]
    exact ⟨_, [], rfl, by simp only [RepV]; exact ⟨hb, a, cap, rfl, h⟩, rfl⟩
  · obtain ⟨hb, rfl⟩ := h
    simp only [Value.cells, RepL]
    exact ⟨_, [], rfl, by simp [RepV, hb], rfl⟩
  · obtain ⟨hb, a, rfl, h⟩ := h
    simp only [Value.cells, RepL]
    exact ⟨_, [], rfl, by simp only [RepV]; exact ⟨hb, a, rfl, h⟩, rfl⟩
  · obtain ⟨b, o, rfl, h⟩ := h
    simp only [Value.cells, RepL]
    exact ⟨_, [], rfl, by simp only [RepV]; exact ⟨b, o, rfl, h⟩, rfl⟩
  · obtain ⟨ra, rc, rfl, h⟩ := h
    simp only [Value.cells, RepL]
    exact ⟨_, [], rfl, by simp only [RepV]; exact ⟨ra, rc, rfl, h⟩, rfl⟩
  · obtain ⟨rv, rfl, h⟩ := h
    simp only [Value.cells, RepL]
    exact ⟨_, [], rfl, by simp only [RepV]; exact ⟨rv, rfl, h⟩, rfl⟩
  · obtain ⟨hb, rfl⟩ := h
    simp only [Value.cells, RepL]
    exact ⟨_, [], rfl, by simp [RepV, hb], rfl⟩
  · cases r <;> simp [Value.oneCell'] at h <;> simp [Value.cells, RepL, RepV, Value.oneCell']
def Tie.real (G : Tie) (h : Heap) (b : Nat) : Option Nat :=
  match h[b]? with
  | some (.box ..) => some (G.bx b)
  | some (.row ..) => (G.rw b).map (·.blk)
  | some (.mmap _) => some (G.bx b)
  | _ => none
def RepM (G : Tie) : List (Value × V) → List MapEntry → Prop
  | [], l => l = []
  | e :: es, l => ∃ x r, l = x :: r ∧ x.key = e.1 ∧ RepV G e.2 x.val ∧ RepM G es r
theorem RepM.ext0 {G G' : Tie} (x : Ext0 G G') : ∀ {es : List (Value × V)} {l : List MapEntry}, RepM G es l → RepM G' es l
  | [], l, h => h
  | e :: es, l, h => by
    simp only [RepM] at h ⊢
    obtain ⟨y, r, e1, h1, h2, h3⟩ := h
    exact ⟨y, r, e1, h1, h2.ext0 x, RepM.ext0 x h3⟩
theorem RepM.ext {G G' : Tie} (x : Ext G G') {es : List (Value × V)} {l : List MapEntry} (h : RepM G es l) : RepM G' es l := RepM.ext0 x.toExt0 h
theorem RepM.length {G : Tie} : ∀ {es : List (Value × V)} {l : List MapEntry}, RepM G es l → l.length = es.length
  | [], l, h => by simp only [RepM] at h; simp [h]
  | e :: es, l, h => by
    simp only [RepM] at h
    obtain ⟨y, r, rfl, h1, h2, h3⟩ := h
    simp [h3.length]
theorem RepM.snoc {G : Tie} {e : Value × V} {x : MapEntry} (hk : x.key = e.1) (hv : RepV G e.2 x.val) : ∀ {es : List (Value × V)} {l : List MapEntry}, RepM G es l → RepM G (es ++ [e]) (l ++ [x])
  | [], l, h => by
    simp only [RepM] at h
    subst h
    exact ⟨x, [], rfl, hk, hv, rfl⟩
  | e' :: es, l, h => by
    simp only [RepM] at h
    obtain ⟨y, r, rfl, h1, h2, h3⟩ := h
    exact ⟨y, r ++ [x], rfl, h1, h2, RepM.snoc hk hv h3⟩
theorem RepM.set {G : Tie} {e : Value × V} {x : MapEntry} (hk : x.key = e.1) (hv : RepV G e.2 x.val) : ∀ {es : List (Value × V)} {l : List MapEntry} {i : Nat}, RepM G es l → RepM G (es.set i e) (l.set i x)
  | [], l, i, h => by simp only [RepM] at h; subst h; simp [RepM]
  | e' :: es, l, i, h => by
    simp only [RepM] at h
    obtain ⟨y, r, rfl, h1, h2, h3⟩ := h
    cases i with
    | zero => exact ⟨x, r, rfl, hk, hv, h3⟩
    | succ i => exact ⟨y, r.set i x, rfl, h1, h2, RepM.set hk hv h3⟩
theorem RepM.mem {G : Tie} : ∀ {es : List (Value × V)} {l : List MapEntry} {e : Value × V}, RepM G es l → e ∈ es → ∃ x ∈ l, x.key = e.1 ∧ RepV G e.2 x.val
  | [], l, e, h, he => by simp at he
  | e' :: es, l, e, h, he => by
    simp only [RepM] at h
    obtain ⟨y, r, rfl, h1, h2, h3⟩ := h
    rcases List.mem_cons.1 he with rfl | he
    · exact ⟨y, by simp, h1, h2⟩
    · obtain ⟨x, hx, q1, q2⟩ := h3.mem he
      exact ⟨x, by simp [hx], q1, q2⟩
def RepBlk (G : Tie) (sz : Nat) (rs : Array Value) (rows : List (List V)) : Prop :=
  ∀ i cs, rows[i]? = some cs → cs.length = sz ∧ cs.all zm = true ∧ ∀ j c, cs[j]? = some c → ∃ v, rs[i * sz + j]? = some v ∧ RepV G c v
structure Rel (G : Tie) (h : Heap) (w : World) : Prop where
  n : G.n = h.length
  fz : ∀ b o v, G.fz b o = some v → w.cell? ⟨b, o, none⟩ = some v
  box : ∀ b t cs, h[b]? = some (.box t cs) → cs.all zm = true ∧ ∃ rs, w.heap[G.bx b]? = some (.cells rs t (0, 0)) ∧ RepL G cs rs.toList
  row : ∀ b t sz e rows, h[b]? = some (.row t sz e rows) → 0 < sz ∧ ∃ L rs, G.rw b = some L ∧ L.e = e ∧ L.sz = sz ∧ (rows.length ≤ L.cp ∧ rows.length = L.vis) ∧
    w.heap[L.blk]? = some (.cells rs t (0, 0)) ∧ rs.size = L.cp * sz ∧ RepBlk G sz rs rows
  mp : ∀ b es, h[b]? = some (.mmap es) → ∃ l clock, w.heap[G.bx b]? = some (.map l clock) ∧ RepM G es l.toList
  low : ∀ b k, G.real h b = some k → G.b0 ≤ k ∧ ∀ o, G.fz k o = none
  inj : ∀ b b' k, G.real h b = some k → G.real h b' = some k → b = b'
  hb0 : G.b0 ≤ w.heap.size
  kp : ∀ k, G.kp k = true → k < w.heap.size ∧ (∀ o, G.fz k o = none) ∧ ∀ b, G.real h b ≠ some k
theorem RepBlk.ext0 {G G' : Tie} (x : Ext0 G G') {sz : Nat} {rs : Array Value} {rows : List (List V)} (h : RepBlk G sz rs rows) : RepBlk G' sz rs rows :=
  fun i cs e => let ⟨h1, h2, h3⟩ := h i cs e; ⟨h1, h2, fun j c ec => let ⟨v, hv, hr⟩ := h3 j c ec; ⟨v, hv, hr.ext0 x⟩⟩
theorem RepBlk.ext {G G' : Tie} (x : Ext G G') {sz : Nat} {rs : Array Value} {rows : List (List V)} (h : RepBlk G sz rs rows) : RepBlk G' sz rs rows := h.ext0 x.toExt0
theorem Rel.lt {G : Tie} {h : Heap} {w : World} (R : Rel G h w) {b k : Nat} (hk : G.real h b = some k) : k < w.heap.size := by
  unfold Tie.real at hk
  split at hk
  · rename_i t cs e
    obtain ⟨_, rs, hw, _⟩ := R.box b t cs e
    injection hk with hk
    subst hk
    exact (Array.getElem?_eq_some_iff.1 hw).1
  · rename_i t sz e rows eq
    obtain ⟨_, L, rs, hL, _, _, _, hw, _⟩ := R.row b t sz e rows eq
    rw [hL] at hk
    simp at hk
    subst hk
    exact (Array.getElem?_eq_some_iff.1 hw).1
  · rename_i es eq
    obtain ⟨l, clock, hw, _⟩ := R.mp b es eq
    injection hk with hk
    subst hk
    exact (Array.getElem?_eq_some_iff.1 hw).1
  · simp at hk
theorem Rel.kp_of {G : Tie} {h : Heap} {w : World} (R : Rel G h w) {b k : Nat} (hk : G.real h b = some k) : G.kp k = false := by
  cases hc : G.kp k with
  | false => rfl
  | true => exact absurd hk ((R.kp k hc).2.2 b)
theorem Rel.kp_new {G : Tie} {h : Heap} {w : World} (R : Rel G h w) : G.kp w.heap.size = false := by
  cases hc : G.kp w.heap.size with
  | false => rfl
  | true => exact absurd (R.kp _ hc).1 (Nat.lt_irrefl _)
structure Bel (G : Tie) (w w' : World) : Prop where
  bel : Below G.b0 w w'
  kept : ∀ k, G.kp k = true → w'.heap[k]? = w.heap[k]?
theorem Bel.refl (G : Tie) (w : World) : Bel G w w := ⟨Below.refl _ _, fun _ _ => rfl⟩
theorem Bel.trans {G : Tie} {w w' w'' : World} (h : Bel G w w') (k : Bel G w' w'') : Bel G w w'' := ⟨h.bel.trans k.bel, fun c hc => (k.kept c hc).trans (h.kept c hc)⟩
theorem Rel.world {G : Tie} {h : Heap} {w w' : World} (R : Rel G h w) (hs : w.heap.size ≤ w'.heap.size) (hw : ∀ k, k < w.heap.size → w'.heap[k]? = w.heap[k]?) : Rel G h w' where
  n := R.n
  fz b o v hv := by
    have := R.fz b o v hv
    have hb : b < w.heap.size := by
      unfold World.cell? at this
      rcases Nat.lt_or_ge b w.heap.size with hb | hb
      · exact hb
      · simp [Array.getElem?_eq_none hb] at this
    unfold World.cell? at this ⊢
    rwa [hw b hb]
  box b t cs e := by
    obtain ⟨h1, rs, h2, h3⟩ := R.box b t cs e
    exact ⟨h1, rs, by rw [hw _ (Array.getElem?_eq_some_iff.1 h2).1]; exact h2, h3⟩
  row b t sz e rows eq := by
    obtain ⟨h0, L, rs, h1, h2, h3, h4, h5, h6⟩ := R.row b t sz e rows eq
    exact ⟨h0, L, rs, h1, h2, h3, h4, by rw [hw _ (Array.getElem?_eq_some_iff.1 h5).1]; exact h5, h6⟩
  mp b es e := by
    obtain ⟨l, clock, h1, h2⟩ := R.mp b es e
    exact ⟨l, clock, by rw [hw _ (Array.getElem?_eq_some_iff.1 h1).1]; exact h1, h2⟩
  low := R.low
  inj := R.inj
  hb0 := Nat.le_trans R.hb0 hs
  kp k hk := let ⟨h1, h2⟩ := R.kp k hk; ⟨Nat.lt_of_lt_of_le h1 hs, h2⟩
def RepEnv (G : Tie) (en : Env) (tmps : Array Value) : Prop := ∀ t, RepV G (en t) (tmps.getD t undef)
theorem RepEnv.ext0 {G G' : Tie} (x : Ext0 G G') {en : Env} {tmps : Array Value} (h : RepEnv G en tmps) : RepEnv G' en tmps := fun t => (h t).ext0 x
theorem RepEnv.ext {G G' : Tie} (x : Ext G G') {en : Env} {tmps : Array Value} (h : RepEnv G en tmps) : RepEnv G' en tmps := fun t => (h t).ext x
theorem RepEnv.put {G : Tie} {en : Env} {tmps : Array Value} (h : RepEnv G en tmps) {t : Nat} (ht : t < tmps.size) {v : V} {r : Value} (hv : RepV G v r) :
    RepEnv G (en.upd t v) (tmps.setIfInBounds t r) := by
  intro x
  unfold Env.upd
  by_cases e : x = t
  · subst e
    rw [if_pos rfl]
    simpa [Array.getD, ht] using hv
  · rw [if_neg e]
    have := h x
    simp only [Array.getD] at this ⊢
    split
    · rename_i hx
      have hx' : x < tmps.size := by simpa using hx
      rw [dif_pos hx'] at this
      simp only [Array.getInternal_eq_getElem] at this ⊢
      rw [Array.getElem_setIfInBounds_ne]
      · exact this
      · omega
    · rename_i hx
      rw [dif_neg (by simpa using hx)] at this
      exact this
end
section
open Go.RowKit (Below)
theorem below_setRow (w : World) (k B : Nat) (rs : Array Value) (h : B ≤ k) : Below B w (w.setRow k rs) :=
  ⟨rfl, rfl, rfl, by simp, fun c hc => setRow_other w k c rs (by omega)⟩
theorem below_alloc (w : World) (B : Nat) (o : Go.Obj) (h : B ≤ w.heap.size) : Below B w (w.alloc o) := (Below.refl B w).alloc h o
theorem below_drew_alloc (w : World) (B : Nat) (o : Go.Obj) (h : B ≤ w.heap.size) : Below B w (w.drew.alloc o) := ((Below.refl B w).drew).alloc h o
theorem heap_alloc_lt (w : World) (o : Go.Obj) (k : Nat) (h : k < w.heap.size) : (w.alloc o).heap[k]? = w.heap[k]? := by
  show (w.heap.push o)[k]? = _
  rw [Array.getElem?_push, if_neg (by omega)]
theorem heap_alloc_eq (w : World) (o : Go.Obj) : (w.alloc o).heap[w.heap.size]? = some o := by
  show (w.heap.push o)[w.heap.size]? = _
  simp
theorem add_none (b o n : Nat) : (⟨b, o, none⟩ : Addr).add n = ⟨b, o + n, none⟩ := by
  unfold Addr.add
  split <;> simp_all
theorem Rel.put {G G' : Tie} {h h' : Heap} {w w' : World} (R : Rel G h w) (x : Ext G G') (b k : Nat)
    (hx : ∀ c, c ≠ b → h'[c]? = h[c]?) (hn : G'.n = h'.length)
    (hfz : G'.fz = G.fz) (hbx : ∀ c, c ≠ b → G'.bx c = G.bx c) (hrw : ∀ c, c ≠ b → G'.rw c = G.rw c)
    (hk : ∀ k', G'.real h' b = some k' → k' = k) (hlow : G.b0 ≤ k) (hfree : ∀ o, G.fz k o = none) (hkp : G.kp k = false) (hown : ∀ c, c ≠ b → G.real h c ≠ some k)
    (hs : w.heap.size ≤ w'.heap.size) (hw : ∀ c, c ≠ k → c < w.heap.size → w'.heap[c]? = w.heap[c]?)
    (hbox : ∀ t cs, h'[b]? = some (.box t cs) → cs.all zm = true ∧ ∃ rs, w'.heap[G'.bx b]? = some (.cells rs t (0, 0)) ∧ RepL G' cs rs.toList)
    (hrow : ∀ t sz e rows, h'[b]? = some (.row t sz e rows) → 0 < sz ∧ ∃ L rs, G'.rw b = some L ∧ L.e = e ∧ L.sz = sz ∧ (rows.length ≤ L.cp ∧ rows.length = L.vis) ∧
      w'.heap[L.blk]? = some (.cells rs t (0, 0)) ∧ rs.size = L.cp * sz ∧ RepBlk G' sz rs rows)
    (hmp : ∀ es, h'[b]? = some (.mmap es) → ∃ l clock, w'.heap[G'.bx b]? = some (.map l clock) ∧ RepM G' es l.toList) : Rel G' h' w' := by
  have hreal : ∀ c, c ≠ b → G'.real h' c = G.real h c := by
    intro c hc
    unfold Tie.real
    rw [hx c hc, hbx c hc, hrw c hc]
  refine ⟨hn, ?_, ?_, ?_, ?_, ?_, ?_, ?_, ?_⟩
  · intro c o v hv
    rw [hfz] at hv
    have := R.fz c o v hv
    have hc : c < w.heap.size := by
      unfold World.cell? at this
      rcases Nat.lt_or_ge c w.heap.size with hb | hb
      · exact hb
      · simp [Array.getElem?_eq_none hb] at this
    have hck : c ≠ k := by
      intro e
      subst e
      rw [hfree o] at hv
      simp at hv
    unfold World.cell? at this ⊢
    rwa [hw c hck hc]
  · intro c t cs e
    by_cases hc : c = b
    · subst hc; exact hbox t cs e
    · rw [hx c hc] at e
      obtain ⟨h1, rs, h2, h3⟩ := R.box c t cs e
      have hne : G.bx c ≠ k := by
        intro ek
        apply hown c hc
        unfold Tie.real
        rw [e, ek]
      refine ⟨h1, rs, ?_, h3.ext x⟩
      rw [hbx c hc, hw _ hne (Array.getElem?_eq_some_iff.1 h2).1]
      exact h2
  · intro c t sz e rows eq
    by_cases hc : c = b
    · subst hc; exact hrow t sz e rows eq
    · rw [hx c hc] at eq
      obtain ⟨h0, L, rs, h1, h2, h3, h4, h5, h6, h7⟩ := R.row c t sz e rows eq
      have hne : L.blk ≠ k := by
        intro ek
        apply hown c hc
        unfold Tie.real
        simp [eq, h1, ek]
      refine ⟨h0, L, rs, ?_, h2, h3, h4, ?_, h6, h7.ext x⟩
      · rw [hrw c hc]; exact h1
      · rw [hw _ hne (Array.getElem?_eq_some_iff.1 h5).1]; exact h5
  · intro c es e
    by_cases hc : c = b
    · subst hc; exact hmp es e
    · rw [hx c hc] at e
      obtain ⟨l, clock, h1, h2⟩ := R.mp c es e
      have hne : G.bx c ≠ k := by
        intro ek
        apply hown c hc
        unfold Tie.real
        rw [e, ek]
      refine ⟨l, clock, ?_, h2.ext x⟩
      rw [hbx c hc, hw _ hne (Array.getElem?_eq_some_iff.1 h1).1]
      exact h1
  · intro c k' hk'
    by_cases hc : c = b
    · subst hc
      rw [hk k' hk', x.b0, hfz]
      exact ⟨hlow, hfree⟩
    · rw [hreal c hc] at hk'
      rw [x.b0, hfz]
      exact R.low c k' hk'
  · intro c c' k' h1 h2
    by_cases hc : c = b
    · by_cases hc' : c' = b
      · rw [hc, hc']
      · subst hc
        rw [hreal c' hc'] at h2
        exact absurd (hk k' h1 ▸ h2) (hown c' hc')
    · by_cases hc' : c' = b
      · subst hc'
        rw [hreal c hc] at h1
        exact absurd (hk k' h2 ▸ h1) (hown c hc)
      · rw [hreal c hc] at h1
        rw [hreal c' hc'] at h2
        exact R.inj c c' k' h1 h2
  · rw [x.b0]
    exact Nat.le_trans R.hb0 hs
  · intro c hc
    rw [x.kp] at hc
    obtain ⟨k1, k2, k3⟩ := R.kp c hc
    refine ⟨Nat.lt_of_lt_of_le k1 hs, by rw [hfz]; exact k2, fun c' e => ?_⟩
    by_cases hc' : c' = b
    · subst hc'
      rw [hk c e, hkp] at hc
      exact absurd hc (by simp)
    · rw [hreal c' hc'] at e
      exact k3 c' e
theorem Rel.real_lt {G : Tie} {h : Heap} {b k : Nat} (hk : G.real h b = some k) : b < h.length := by
  unfold Tie.real at hk
  rcases Nat.lt_or_ge b h.length with hb | hb
  · exact hb
  · simp [List.getElem?_eq_none hb] at hk
theorem bel_setRow {G : Tie} {h : Heap} {w : World} (R : Rel G h w) {b k : Nat} (hk : G.real h b = some k) (rs : Array Value) : Bel G w (w.setRow k rs) :=
  ⟨below_setRow w k G.b0 rs (R.low b k hk).1, fun c hc => setRow_other w k c rs (fun e => by rw [e, R.kp_of hk] at hc; exact absurd hc (by simp))⟩
theorem bel_alloc {G : Tie} {h : Heap} {w : World} (R : Rel G h w) (o : Go.Obj) : Bel G w (w.alloc o) := ⟨below_alloc w G.b0 o R.hb0, fun c hc => heap_alloc_lt w o c (R.kp c hc).1⟩
theorem bel_drew_alloc {G : Tie} {h : Heap} {w : World} (R : Rel G h w) (o : Go.Obj) : Bel G w (w.drew.alloc o) := ⟨below_drew_alloc w G.b0 o R.hb0, fun c hc => heap_alloc_lt w.drew o c (R.kp c hc).1⟩
theorem Rel.fz_new {G : Tie} {h : Heap} {w : World} (R : Rel G h w) (o : Nat) : G.fz w.heap.size o = none := by
  cases e : G.fz w.heap.size o with
  | none => rfl
  | some v =>
    have := R.fz _ _ _ e
    unfold World.cell? at this
    simp at this
def Tie.newBox (G : Tie) (k : Nat) : Tie := { G with n := G.n + 1, bx := fun c => if c = G.n then k else G.bx c }
def Tie.newRow (G : Tie) (L : RowLoc) : Tie := { G with n := G.n + 1, rw := fun c => if c = G.n then some L else G.rw c }
def Tie.setRow (G : Tie) (b : Nat) (L : RowLoc) : Tie := { G with rw := fun c => if c = b then some L else G.rw c }
theorem Ext.newBox (G : Tie) (k : Nat) : Ext G (G.newBox k) where
  fz _ _ _ h := h
  n := Nat.le_succ _
  bx b hb := by simp only [Tie.newBox]; rw [if_neg (by omega)]
  rw _ _ L h := ⟨L, h, Nat.le_refl _, fun _ => rfl⟩
  b0 := rfl
  kp := rfl
theorem Ext.newRow (G : Tie) (k : RowLoc) : Ext G (G.newRow k) where
  fz _ _ _ h := h
  n := Nat.le_succ _
  bx _ _ := rfl
  rw b hb L h := by
    simp only [Tie.newRow] at h
    rw [if_neg (by omega)] at h
    exact ⟨L, h, Nat.le_refl _, fun _ => rfl⟩
  b0 := rfl
  kp := rfl
theorem Ext.setRow (G : Tie) (b : Nat) (L L' : RowLoc) (hb : G.rw b = some L) (he : L.e ≤ L'.e) (hq : L.e = L'.e → L' = L) : Ext G (G.setRow b L') where
  fz _ _ _ h := h
  n := Nat.le_refl _
  bx _ _ := rfl
  rw c hc M h := by
    simp only [Tie.setRow] at h
    by_cases e : c = b
    · subst e
      rw [if_pos rfl] at h
      injection h with h
      subst h
      exact ⟨L, hb, he, hq⟩
    · rw [if_neg e] at h
      exact ⟨M, h, Nat.le_refl _, fun _ => rfl⟩
  b0 := rfl
  kp := rfl
theorem Rel.newBox {G : Tie} {h : Heap} {w : World} (R : Rel G h w) {cs : List V} {rs : Array Value} (ty : TypeId) (h1 : cs.all zm = true) (hr : RepL G cs rs.toList) :
    Rel (G.newBox w.heap.size) (h ++ [.box ty cs]) (w.alloc (.cells rs ty (0, 0))) := by
  have x := Ext.newBox G w.heap.size
  refine R.put x G.n w.heap.size ?_ ?_ rfl ?_ (fun _ _ => rfl) ?_ R.hb0 R.fz_new R.kp_new ?_ ?_ ?_ ?_ ?_ (fun es e => by rw [R.n, List.getElem?_append_right (Nat.le_refl _)] at e; simp at e)
  · intro c hc
    rw [R.n] at hc
    rcases Nat.lt_or_ge c h.length with hl | hl
    · rw [List.getElem?_append_left hl]
    · rw [List.getElem?_eq_none hl, List.getElem?_eq_none (by simp; omega)]
  · simp [Tie.newBox, R.n]
  · intro c hc
    simp only [Tie.newBox]
    rw [if_neg hc]
  · intro k' hk'
    unfold Tie.real at hk'
    rw [R.n, List.getElem?_append_right (Nat.le_refl _)] at hk'
    simp [Tie.newBox, R.n] at hk'
    omega
  · intro c hc e
    have := R.lt e
    omega
  · simp
  · intro c hc hl
    exact heap_alloc_lt w _ c hl
  · intro t' cs' e
    rw [R.n, List.getElem?_append_right (Nat.le_refl _)] at e
    simp at e
    obtain ⟨rfl, rfl⟩ := e
    refine ⟨h1, rs, ?_, hr.ext x⟩
    simp only [Tie.newBox, if_true]
    exact heap_alloc_eq w _
  · intro t sz e rows eq
    rw [R.n, List.getElem?_append_right (Nat.le_refl _)] at eq
    simp at eq
theorem Rel.newRow {G : Tie} {h : Heap} {w : World} (R : Rel G h w) {sz cp : Nat} {rows : List (List V)} {rs : Array Value} (ty : TypeId) (hsz : 0 < sz) (hcp : rows.length ≤ cp)
    (hs : rs.size = cp * sz) (hr : RepBlk G sz rs rows) :
    Rel (G.newRow ⟨0, sz, w.heap.size, cp, rows.length⟩) (h ++ [.row ty sz 0 rows]) (w.alloc (.cells rs ty (0, 0))) := by
  have x := Ext.newRow G ⟨0, sz, w.heap.size, cp, rows.length⟩
  refine R.put x G.n w.heap.size ?_ ?_ rfl (fun _ _ => rfl) ?_ ?_ R.hb0 R.fz_new R.kp_new ?_ ?_ ?_ ?_ ?_ (fun es e => by rw [R.n, List.getElem?_append_right (Nat.le_refl _)] at e; simp at e)
  · intro c hc
    rw [R.n] at hc
    rcases Nat.lt_or_ge c h.length with hl | hl
    · rw [List.getElem?_append_left hl]
    · rw [List.getElem?_eq_none hl, List.getElem?_eq_none (by simp; omega)]
  · simp [Tie.newRow, R.n]
  · intro c hc
    simp only [Tie.newRow]
    rw [if_neg hc]
  · intro k' hk'
    unfold Tie.real at hk'
    rw [R.n, List.getElem?_append_right (Nat.le_refl _)] at hk'
    simp [Tie.newRow, R.n] at hk'
    omega
  · intro c hc e
    have := R.lt e
    omega
  · simp
  · intro c hc hl
    exact heap_alloc_lt w _ c hl
  · intro t' cs' e
    rw [R.n, List.getElem?_append_right (Nat.le_refl _)] at e
    simp at e
  · intro t' sz' e rows' eq
    rw [R.n, List.getElem?_append_right (Nat.le_refl _)] at eq
    simp at eq
    obtain ⟨rfl, rfl, rfl, rfl⟩ := eq
    refine ⟨hsz, ⟨0, sz, w.heap.size, cp, rows.length⟩, rs, ?_, rfl, rfl, ⟨hcp, rfl⟩, ?_, hs, hr.ext x⟩
    · simp [Tie.newRow]
    · exact heap_alloc_eq w _
theorem Rel.setBox {G : Tie} {h : Heap} {w : World} (R : Rel G h w) {b : Nat} {cs cs' : List V} {rs rs' : Array Value} {ty : TypeId} (hb : h[b]? = some (.box ty cs))
    (hw : w.heap[G.bx b]? = some (.cells rs ty (0, 0))) (h1 : cs'.all zm = true) (hr : RepL G cs' rs'.toList) : Rel G (h.set b (.box ty cs')) (w.setRow (G.bx b) rs') := by
  have hreal : G.real h b = some (G.bx b) := by unfold Tie.real; rw [hb]
  have hlt : b < h.length := Rel.real_lt hreal
  refine R.put (Ext.refl G) b (G.bx b) ?_ ?_ rfl (fun _ _ => rfl) (fun _ _ => rfl) ?_ (R.low b _ hreal).1 (R.low b _ hreal).2 (R.kp_of hreal) ?_ ?_ ?_ ?_ ?_ (fun es e => by rw [List.getElem?_set_self hlt] at e; simp at e)
  · intro c hc
    rw [List.getElem?_set_ne (by omega)]
  · simp [R.n]
  · intro k' hk'
    unfold Tie.real at hk'
    rw [List.getElem?_set_self hlt] at hk'
    simpa using hk'.symm
  · intro c hc e
    exact hc (R.inj c b _ e hreal)
  · simp [World.setRow]
  · intro c hc _
    exact setRow_other w _ _ _ hc
  · intro t' cs'' e
    rw [List.getElem?_set_self hlt] at e
    simp at e
    obtain ⟨rfl, rfl⟩ := e
    exact ⟨h1, rs', setRow_heap w _ _ _ _ _ hw, hr⟩
  · intro t sz e rows eq
    rw [List.getElem?_set_self hlt] at eq
    simp at eq
theorem Rel.newMap {G : Tie} {h : Heap} {w : World} (R : Rel G h w) : Rel (G.newBox w.heap.size) (h ++ [.mmap []]) (w.alloc (.map #[] 0)) := by
  have x := Ext.newBox G w.heap.size
  refine R.put x G.n w.heap.size ?_ ?_ rfl ?_ (fun _ _ => rfl) ?_ R.hb0 R.fz_new R.kp_new ?_ ?_ ?_ (fun t cs e => by rw [R.n, List.getElem?_append_right (Nat.le_refl _)] at e; simp at e) (fun t sz e rows eq => by rw [R.n, List.getElem?_append_right (Nat.le_refl _)] at eq; simp at eq) ?_
  · intro c hc
    rw [R.n] at hc
    rcases Nat.lt_or_ge c h.length with hl | hl
    · rw [List.getElem?_append_left hl]
    · rw [List.getElem?_eq_none hl, List.getElem?_eq_none (by simp; omega)]
  · simp [Tie.newBox, R.n]
  · intro c hc
    simp only [Tie.newBox]
    rw [if_neg hc]
  · intro k' hk'
    unfold Tie.real at hk'
    rw [R.n, List.getElem?_append_right (Nat.le_refl _)] at hk'
    simp [Tie.newBox, R.n] at hk'
    omega
  · intro c hc e
    have := R.lt e
    omega
  · simp
  · intro c hc hl
    exact heap_alloc_lt w _ c hl
  · intro es e
    rw [R.n, List.getElem?_append_right (Nat.le_refl _)] at e
    simp at e
    subst e
    refine ⟨#[], 0, ?_, rfl⟩
    simp only [Tie.newBox, if_true]
    exact heap_alloc_eq w _
theorem Rel.setMap {G : Tie} {h : Heap} {w w' : World} (R : Rel G h w) {b : Nat} {es es' : List (Value × V)} {l : Array MapEntry} {clock : Nat} (hb : h[b]? = some (.mmap es)) (hs : w.heap.size ≤ w'.heap.size) (hw : ∀ c, c ≠ G.bx b → c < w.heap.size → w'.heap[c]? = w.heap[c]?)
    (hw' : w'.heap[G.bx b]? = some (.map l clock)) (hr : RepM G es' l.toList) : Rel G (h.set b (.mmap es')) w' := by
  have hreal : G.real h b = some (G.bx b) := by unfold Tie.real; rw [hb]
  have hlt : b < h.length := Rel.real_lt hreal
  refine R.put (Ext.refl G) b (G.bx b) ?_ ?_ rfl (fun _ _ => rfl) (fun _ _ => rfl) ?_ (R.low b _ hreal).1 (R.low b _ hreal).2 (R.kp_of hreal) ?_ hs hw (fun t cs e => by rw [List.getElem?_set_self hlt] at e; simp at e) (fun t sz e rows eq => by rw [List.getElem?_set_self hlt] at eq; simp at eq) ?_
  · intro c hc
    rw [List.getElem?_set_ne (by omega)]
  · simp [R.n]
  · intro k' hk'
    unfold Tie.real at hk'
    rw [List.getElem?_set_self hlt] at hk'
    simpa using hk'.symm
  · intro c hc e
    exact hc (R.inj c b _ e hreal)
  · intro es2 e
    rw [List.getElem?_set_self hlt] at e
    simp at e
    subst e
    exact ⟨l, clock, hw', hr⟩
theorem Rel.setRowAt {G : Tie} {h : Heap} {w w' : World} (R : Rel G h w) {b : Nat} {sz e e' : Nat} {rows rows' : List (List V)} {L L' : RowLoc} {rs' : Array Value} {ty : TypeId}
    (hb : h[b]? = some (.row ty sz e rows)) (hL : G.rw b = some L) (he : L.e ≤ L'.e) (hq : L.e = L'.e → L' = L) (hLe : L'.e = e') (hLs : L'.sz = sz) (hcp : rows'.length ≤ L'.cp ∧ rows'.length = L'.vis)
    (hblk : L'.blk = L.blk ∨ L'.blk = w.heap.size) (hs : w.heap.size ≤ w'.heap.size) (hw : ∀ c, c ≠ L'.blk → c < w.heap.size → w'.heap[c]? = w.heap[c]?)
    (hw' : w'.heap[L'.blk]? = some (.cells rs' ty (0, 0))) (hsz' : rs'.size = L'.cp * sz) (hr : RepBlk G sz rs' rows') :
    Rel (G.setRow b L') (h.set b (.row ty sz e' rows')) w' := by
  have x := Ext.setRow G b L L' hL he hq
  have hreal : G.real h b = some L.blk := by unfold Tie.real; rw [hb]; simp [hL]
  have hlt : b < h.length := Rel.real_lt hreal
  have hpos := (R.row b ty sz e rows hb).1
  refine R.put x b L'.blk ?_ ?_ rfl (fun _ _ => rfl) ?_ ?_ ?_ ?_ (hblk.elim (fun e1 => e1 ▸ R.kp_of hreal) (fun e1 => e1 ▸ R.kp_new)) ?_ hs hw ?_ ?_ (fun es e => by rw [List.getElem?_set_self hlt] at e; simp at e)
  · intro c hc
    rw [List.getElem?_set_ne (by omega)]
  · simp [R.n, Tie.setRow]
  · intro c hc
    simp only [Tie.setRow]
    rw [if_neg hc]
  · intro k' hk'
    unfold Tie.real at hk'
    rw [List.getElem?_set_self hlt] at hk'
    simpa [Tie.setRow] using hk'.symm
  · rcases hblk with e1 | e1
    · rw [e1]; exact (R.low b _ hreal).1
    · rw [e1]; exact R.hb0
  · rcases hblk with e1 | e1
    · rw [e1]; exact (R.low b _ hreal).2
    · rw [e1]; exact R.fz_new
  · intro c hc ec
    rcases hblk with e1 | e1
    · rw [e1] at ec
      exact hc (R.inj c b _ ec hreal)
    · have := R.lt ec
      omega
  · intro t' cs'' ec
    rw [List.getElem?_set_self hlt] at ec
    simp at ec
  · intro t1 sz1 e1 rows1 eq
    rw [List.getElem?_set_self hlt] at eq
    simp at eq
    obtain ⟨rfl, rfl, rfl, rfl⟩ := eq
    exact ⟨hpos, L', rs', by simp [Tie.setRow], hLe, hLs, hcp, hw', hsz', hr.ext x⟩
theorem Tie.setRow_same {G : Tie} {b : Nat} {L : RowLoc} (h : G.rw b = some L) : G.setRow b L = G := by
  unfold Tie.setRow
  congr
  funext c
  by_cases e : c = b
  · rw [if_pos e, e, h]
  · rw [if_neg e]
def ptrCells (h : Heap) (n : Nat) : V → Option (List V × Nat)
  | .ptr b off => match h[b]? with
    | some (.box _ cs) => some (cs, off)
    | _ => none
  | .rptr b e i off => match rowAt h b e with
    | some (_, rs) => (rs[i]?).bind fun cs => if off + n ≤ cs.length then some (cs, off) else if i = 0 then some (rs.flatten, off) else none
    | none => none
  | .eptr cs off => some (cs, off)
  | _ => none
theorem loadV_eq (h : Heap) (n : Option Nat) (v : V) : zl h n v = (ptrCells h (n.getD 1) v).bind fun p => zb n p.1 p.2 := by
  cases v <;> simp only [zl, ptrCells, Option.bind_none, Option.bind_some]
  · split <;> simp_all
  · split
    · rename_i eq
      simp only [eq, Option.bind_assoc]
      congr 1
      funext cs
      split
      · rfl
      · split <;> rfl
    · rename_i eq
      simp [eq]
theorem Rel.rowAt {G : Tie} {h : Heap} {w : World} (R : Rel G h w) {b e sz : Nat} {rows : List (List V)} (hr : rowAt h b e = some (sz, rows)) :
    ∃ t, h[b]? = some (.row t sz e rows) ∧ 0 < sz ∧ ∃ L rs, G.rw b = some L ∧ L.e = e ∧ L.sz = sz ∧ (rows.length ≤ L.cp ∧ rows.length = L.vis) ∧
      w.heap[L.blk]? = some (.cells rs t (0, 0)) ∧ rs.size = L.cp * sz ∧ RepBlk G sz rs rows := by
  unfold Am.rowAt at hr
  split at hr
  · rename_i t sz' e' rs' eq
    split at hr
    · rename_i ee
      simp at hr
      obtain ⟨rfl, rfl⟩ := hr
      subst ee
      exact ⟨t, eq, R.row b _ _ _ _ eq⟩
    · simp at hr
  · simp at hr
theorem cell_of_heap {w : World} {b o : Nat} {rs : Array Value} {ty : TypeId} {fr : Nat × Nat} (h : w.heap[b]? = some (.cells rs ty fr)) : w.cell? ⟨b, o, none⟩ = rs[o]? := by
  unfold World.cell?
  simp [h]
theorem flat_get {G : Tie} {sz : Nat} {rs : Array Value} : ∀ {rows : List (List V)} {o : Nat}, (∀ (i : Nat) (cs : List V), rows[i]? = some cs → cs.length = sz ∧ ∀ (j : Nat) (c : V), cs[j]? = some c → ∃ v, rs[o + i * sz + j]? = some v ∧ RepV G c v) →
    ∀ (p : Nat) (c : V), rows.flatten[p]? = some c → ∃ v, rs[o + p]? = some v ∧ RepV G c v
  | [], o, h, p, c, hc => by simp at hc
  | r :: rows, o, h, p, c, hc => by
    obtain ⟨h1, h2⟩ := h 0 r rfl
    rw [List.flatten_cons] at hc
    by_cases hp : p < r.length
    · rw [List.getElem?_append_left hp] at hc
      simpa using h2 p c hc
    · rw [List.getElem?_append_right (by omega)] at hc
      have := flat_get (rows := rows) (o := o + sz) (fun i cs hi => by
        obtain ⟨h3, h4⟩ := h (i + 1) cs (by simpa using hi)
        refine ⟨h3, fun j c hj => ?_⟩
        have := h4 j c hj
        rwa [show o + (i + 1) * sz + j = o + sz + i * sz + j by rw [Nat.add_mul]; omega] at this) _ _ hc
      rwa [show o + sz + (p - r.length) = o + p by omega] at this
theorem RepBlk.flat {G : Tie} {sz : Nat} {rs : Array Value} {rows : List (List V)} (hB : RepBlk G sz rs rows) : ∀ (p : Nat) (c : V), rows.flatten[p]? = some c → ∃ v, rs[p]? = some v ∧ RepV G c v := by
  intro p c hc
  have := flat_get (rs := rs) (rows := rows) (o := 0) (fun i cs hi => ⟨(hB i cs hi).1, fun j c hj => by simpa using (hB i cs hi).2.2 j c hj⟩) p c hc
  simpa using this
theorem flat_length {G : Tie} {sz : Nat} {rs : Array Value} {rows : List (List V)} (hB : RepBlk G sz rs rows) : rows.flatten.length = rows.length * sz := by
  have h : ∀ l : List (List V), (∀ r ∈ l, r.length = sz) → l.flatten.length = l.length * sz := by
    intro l
    induction l with
    | nil => simp
    | cons r l ih =>
      intro hr
      simp only [List.flatten_cons, List.length_append, List.length_cons]
      rw [ih fun x hx => hr x (by simp [hx]), hr r (by simp), Nat.add_mul]
      omega
  refine h rows fun r hr => ?_
  obtain ⟨i, hi⟩ := List.getElem?_of_mem hr
  exact (hB i r hi).1
theorem flat_one {G : Tie} {sz : Nat} {rs : Array Value} {rows : List (List V)} (hB : RepBlk G sz rs rows) : rows.flatten.all zm = true := by
  rw [List.all_eq_true]
  intro v hv
  obtain ⟨r, hr, hv⟩ := List.mem_flatten.1 hv
  obtain ⟨i, hi⟩ := List.getElem?_of_mem hr
  exact List.all_eq_true.1 (hB i r hi).2.1 v hv
theorem chunk_length (sz : Nat) (l : List V) : (chunk sz l).length = l.length / sz := by simp [chunk]
theorem chunk_get {sz : Nat} {l : List V} {i : Nat} {cs : List V} (h : (chunk sz l)[i]? = some cs) : i < l.length / sz ∧ cs = (l.drop (i * sz)).take sz := by
  simp only [chunk, List.getElem?_map, Option.map_eq_some_iff] at h
  obtain ⟨k, hk, rfl⟩ := h
  have hkl : i < l.length / sz := by
    rcases Nat.lt_or_ge i (l.length / sz) with hl | hl
    · exact hl
    · rw [List.getElem?_eq_none (by simpa using hl)] at hk
      simp at hk
  rw [List.getElem?_range hkl] at hk
  injection hk with hk
  subst hk
  exact ⟨hkl, rfl⟩
theorem chunk_mem {sz : Nat} {l r : List V} (h : r ∈ chunk sz l) : ∀ v ∈ r, v ∈ l := by
  simp only [chunk, List.mem_map] at h
  obtain ⟨i, _, rfl⟩ := h
  exact fun v hv => List.mem_of_mem_drop (List.mem_of_mem_take hv)
theorem chunk_blk {G : Tie} {sz : Nat} {rs : Array Value} {l : List V} (hpos : 0 < sz) (h1 : l.all zm = true) (h : ∀ (p : Nat) (c : V), l[p]? = some c → ∃ v, rs[p]? = some v ∧ RepV G c v) : RepBlk G sz rs (chunk sz l) := by
  intro i cs hi
  obtain ⟨hl, rfl⟩ := chunk_get hi
  have hroom : i * sz + sz ≤ l.length := by
    have h2 : (i + 1) * sz ≤ l.length / sz * sz := Nat.mul_le_mul_right _ hl
    have h3 := Nat.div_mul_le_self l.length sz
    rw [Nat.add_mul] at h2
    omega
  refine ⟨by simp; omega, ?_, fun j c hj => ?_⟩
  · rw [List.all_eq_true] at h1 ⊢
    exact fun v hv => h1 v (List.mem_of_mem_drop (List.mem_of_mem_take hv))
  · rw [List.getElem?_take] at hj
    split at hj
    · rw [List.getElem?_drop] at hj
      exact h _ _ hj
    · simp at hj
theorem Rel.cells {G : Tie} {h : Heap} {w : World} (R : Rel G h w) {v : V} {r : Value} {cs : List V} {off n : Nat} (hp : ptrCells h n v = some (cs, off)) (hv : RepV G v r) :
    ∃ b o, r = .pointer (some ⟨b, o, none⟩) ∧ ∀ j c, cs[off + j]? = some c → ∃ rv, w.cell? ⟨b, o + j, none⟩ = some rv ∧ RepV G c rv := by
  cases v <;> simp only [ptrCells] at hp
  case ptr b' off' =>
    simp only [RepV] at hv
    split at hp
    · rename_i cs' eq
      simp at hp
      obtain ⟨rfl, rfl⟩ := hp
      obtain ⟨_, rs, hw, hl⟩ := R.box _ _ _ eq
      refine ⟨_, _, hv.2, fun j c hc => ?_⟩
      obtain ⟨rv, h1, h2⟩ := hl.get hc
      exact ⟨rv, by rw [cell_of_heap hw, ← Array.getElem?_toList]; exact h1, h2⟩
    · simp at hp
  case rptr b' e i off' =>
    simp only [RepV] at hv
    split at hp
    · rename_i sz rs' eq
      simp only [Option.bind_eq_some_iff] at hp
      obtain ⟨cs', hc', hp⟩ := hp
      obtain ⟨ty, _, hpos, L, rs, hL, he, hs, hcp, hw, hsz, hB⟩ := R.rowAt eq
      obtain ⟨_, a, rfl, ha⟩ := hv
      have := (ha L hL).2 he.symm
      subst this
      refine ⟨_, _, rfl, fun j c hc => ?_⟩
      split at hp
      · simp only [Option.some.injEq, Prod.mk.injEq] at hp
        obtain ⟨rfl, rfl⟩ := hp
        obtain ⟨_, _, h3⟩ := hB i _ hc'
        obtain ⟨rv, h4, h5⟩ := h3 _ _ hc
        exact ⟨rv, by rw [cell_of_heap hw, hs, Nat.add_assoc]; exact h4, h5⟩
      · split at hp
        · rename_i hi0
          subst hi0
          simp only [Option.some.injEq, Prod.mk.injEq] at hp
          obtain ⟨rfl, rfl⟩ := hp
          obtain ⟨rv, h4, h5⟩ := RepBlk.flat hB _ _ hc
          exact ⟨rv, by rw [cell_of_heap hw, Nat.zero_mul, Nat.zero_add]; exact h4, h5⟩
        · simp at hp
    · simp at hp
  case eptr cs' off' =>
    simp at hp
    obtain ⟨rfl, rfl⟩ := hp
    simp only [RepV] at hv
    obtain ⟨b, o, rfl, _, hF⟩ := hv
    refine ⟨_, _, rfl, fun j c hc => ?_⟩
    obtain ⟨rv, h1, h2⟩ := hF.get hc
    exact ⟨rv, by rw [Nat.add_assoc]; exact R.fz _ _ _ h1, h2⟩
  all_goals simp at hp
theorem cut_cells {G : Tie} {w : World} {b o : Nat} {cs : List V} {off k : Nat} (h : ∀ j c, cs[off + j]? = some c → ∃ rv, w.cell? ⟨b, o + j, none⟩ = some rv ∧ RepV G c rv) (hk : off + k ≤ cs.length) :
    ∃ rs : List Value, rs.length = k ∧ RepL G ((cs.drop off).take k) rs ∧ ∀ j v, rs[j]? = some v → w.cell? ⟨b, o + j, none⟩ = some v := by
  induction k generalizing off o with
  | zero => exact ⟨[], rfl, by simp [RepL], by simp⟩
  | succ k ih =>
    have hlt : off < cs.length := by omega
    obtain ⟨rv, h1, h2⟩ := h 0 cs[off] (by simp [hlt])
    obtain ⟨rs, h3, h4, h5⟩ := ih (off := off + 1) (o := o + 1) (fun j c hc => by
      have := h (j + 1) c (by rwa [show off + (j + 1) = off + 1 + j by omega])
      rwa [show o + (j + 1) = o + 1 + j by omega] at this) (by omega)
    refine ⟨rv :: rs, by simp [h3], ?_, ?_⟩
    · rw [List.drop_eq_getElem_cons hlt, List.take_succ_cons]
      simp only [RepL]
      exact ⟨rv, rs, rfl, h2, h4⟩
    · intro j v hv
      cases j with
      | zero => simp at hv; subst hv; simpa using h1
      | succ j =>
        have := h5 j v (by simpa using hv)
        rwa [show o + (j + 1) = o + 1 + j by omega]
theorem shape_run {P : Program} {t : TypeId} {n : Option Nat} (h : shapeO P t = some n) (w : World) :
    (match n with
     | none => (isAgg t).run P w = .ok false w
     | some k => (isAgg t).run P w = .ok true w ∧ (sizeOf t).run P w = .ok k w) := by
  simp only [shapeO, aggT, sizeO, Option.bind_eq_some_iff, Option.map_eq_some_iff] at h
  obtain ⟨a, ⟨d, hd, ha⟩, m, ⟨i, hi, hm⟩, hn⟩ := h
  have hsz : (sizeOf t).run P w = .ok m w := by
    simp [sizeOf, typeInfo, hi, hm]
  split at hn
  · rename_i ht
    injection hn with hn
    subst hn
    refine ⟨?_, hsz⟩
    simp only [isAgg, Sem.run_bind, run_underlying hd w, Result.andThen]
    cases d <;> simp_all
  · rename_i ht
    split at hn
    · injection hn with hn
      subst hn
      simp only [isAgg, Sem.run_bind, run_underlying hd w, Result.andThen]
      cases d <;> simp_all
    · simp at hn
theorem load_run {P : Program} {G : Tie} {h : Heap} {w : World} (R : Rel G h w) {t : TypeId} {n : Option Nat} (hn : shapeO P t = some n) {v x : V} {r : Value}
    (hv : RepV G v r) (hx : zl h n v = some x) : ∃ rx, (Instr.loadAt t r).run P w = .ok rx w ∧ RepV G x rx := by
  rw [loadV_eq, Option.bind_eq_some_iff] at hx
  obtain ⟨⟨cs, off⟩, hp, hc⟩ := hx
  obtain ⟨b, o, rfl, hcell⟩ := R.cells hp hv
  have hs := shape_run hn w
  cases n with
  | none =>
    simp only [zb] at hc
    obtain ⟨rv, h1, h2⟩ := hcell 0 x (by simpa using hc)
    refine ⟨rv, ?_, h2⟩
    simp only [Nat.add_zero] at h1
    simp [Instr.loadAt, Instr.sureAddr, loadVar, hs, h1]
  | some k =>
    simp only [zb] at hc
    split at hc
    · rename_i hle
      injection hc with hc
      subst hc
      obtain ⟨rs, h1, h2, h3⟩ := cut_cells hcell hle
      refine ⟨.agg rs.toArray, ?_, ?_⟩
      · have := run_loadCells_list (P := P) w ⟨b, o, none⟩ rs (fun j v hj => by rw [add_none]; exact h3 j v hj)
        rw [h1] at this
        simp [Instr.loadAt, Instr.sureAddr, loadVar, hs.1, hs.2, this]
      · simp only [RepV]
        exact ⟨_, rfl, by simpa using h2⟩
    · simp at hc
end
section
open Go.RowKit (Below)
theorem RepL.one {G : Tie} : ∀ {cs : List V} {rs : List Value}, RepL G cs rs → cs.all zm = true → ∀ v ∈ rs, v.oneCell' = true
  | [], _, h, _, v, hv => by simp only [RepL] at h; subst h; simp at hv
  | c :: cs, _, h, h1, v, hv => by
    simp only [RepL] at h
    obtain ⟨r, rest, rfl, h2, h3⟩ := h
    simp only [List.all_cons, Bool.and_eq_true] at h1
    simp only [List.mem_cons] at hv
    rcases hv with rfl | hv
    · exact h2.one h1.1
    · exact RepL.one h3 h1.2 v hv
theorem putCells_length {cs new : List V} {off : Nat} (h : off + new.length ≤ cs.length) : (putCells cs off new).length = cs.length := by
  unfold putCells
  simp
  omega
theorem RepL.put {G : Tie} {cs new : List V} {rs ns : List Value} {off : Nat} (h : RepL G cs rs) (k : RepL G new ns) : RepL G (putCells cs off new) (rs.take off ++ ns ++ rs.drop (off + ns.length)) := by
  unfold putCells
  rw [k.length]
  exact ((h.take off).append k).append (h.drop _)
theorem all_put {cs new : List V} {off : Nat} {p : V → Bool} (h : cs.all p = true) (k : new.all p = true) : (putCells cs off new).all p = true := by
  unfold putCells
  simp only [List.all_append, Bool.and_eq_true]
  refine ⟨⟨?_, k⟩, ?_⟩
  · rw [List.all_eq_true] at h ⊢
    exact fun x hx => h x (List.mem_of_mem_take hx)
  · rw [List.all_eq_true] at h ⊢
    exact fun x hx => h x (List.mem_of_mem_drop hx)
theorem getElem?_put {α : Type} (cs new : List α) (off j : Nat) (h : off + new.length ≤ cs.length) :
    (cs.take off ++ new ++ cs.drop (off + new.length))[j]? = if off ≤ j ∧ j < off + new.length then new[j - off]? else cs[j]? := by
  have ht : (cs.take off).length = off := by simp; omega
  by_cases h1 : j < off
  · rw [if_neg (by omega), List.append_assoc, List.getElem?_append_left (by omega), List.getElem?_take_of_lt h1]
  · by_cases h2 : j < off + new.length
    · rw [if_pos (by omega), List.getElem?_append_left (by simp; omega), List.getElem?_append_right (by omega), ht]
    · rw [if_neg (by omega), List.getElem?_append_right (by simp; omega)]
      simp only [List.length_append, ht, List.getElem?_drop]
      congr 1
      omega
theorem getElem?_putE {α : Type} (cs new : List α) (off j : Nat) (h : off ≤ cs.length) :
    (cs.take off ++ new ++ cs.drop (off + new.length))[j]? = if off ≤ j ∧ j < off + new.length then new[j - off]? else cs[j]? := by
  have ht : (cs.take off).length = off := by simp; omega
  by_cases h1 : j < off
  · rw [if_neg (by omega), List.append_assoc, List.getElem?_append_left (by omega), List.getElem?_take_of_lt h1]
  · by_cases h2 : j < off + new.length
    · rw [if_pos (by omega), List.getElem?_append_left (by simp; omega), List.getElem?_append_right (by omega), ht]
    · rw [if_neg (by omega), List.getElem?_append_right (by simp; omega)]
      simp only [List.length_append, ht, List.getElem?_drop]
      congr 1
      omega
theorem RepBlk.put {G : Tie} {sz : Nat} {rs : Array Value} {rows : List (List V)} (hB : RepBlk G sz rs rows) (_ : 0 < sz) {i off : Nat} {cs new : List V} {ns : List Value}
    (hi : rows[i]? = some cs) (hk : RepL G new ns) (h1 : new.all zm = true) (hle : off + new.length ≤ cs.length) (hsz : i * sz + sz ≤ rs.size) :
    RepBlk G sz (rs.toList.take (i * sz + off) ++ ns ++ rs.toList.drop (i * sz + off + ns.length)).toArray (rows.set i (putCells cs off new)) := by
  obtain ⟨hl, hone, hcell⟩ := hB i cs hi
  have hlen : i < rows.length := (List.getElem?_eq_some_iff.1 hi).1
  have hnl := hk.length
  intro i' cs' hi'
  by_cases e : i' = i
  · subst e
    rw [List.getElem?_set_self hlen] at hi'
    injection hi' with hi'
    subst hi'
    refine ⟨by rw [putCells_length hle]; exact hl, all_put hone h1, fun j c hc => ?_⟩
    rw [List.getElem?_toArray, getElem?_put _ _ _ _ (by simp; omega)]
    unfold putCells at hc
    rw [getElem?_put _ _ _ _ hle] at hc
    by_cases hj : off ≤ j ∧ j < off + new.length
    · rw [if_pos hj] at hc
      rw [if_pos (by omega)]
      obtain ⟨r, h2, h3⟩ := hk.get hc
      exact ⟨r, by rw [show i' * sz + j - (i' * sz + off) = j - off by omega]; exact h2, h3⟩
    · rw [if_neg hj] at hc
      rw [if_neg (by omega)]
      obtain ⟨v, hv, hr⟩ := hcell j c hc
      exact ⟨v, by rw [Array.getElem?_toList]; exact hv, hr⟩
  · rw [List.getElem?_set_ne (by omega)] at hi'
    obtain ⟨h2, h3, h4⟩ := hB i' cs' hi'
    refine ⟨h2, h3, fun j c hc => ?_⟩
    obtain ⟨v, hv, hr⟩ := h4 j c hc
    refine ⟨v, ?_, hr⟩
    have hjlt : j < sz := by rw [← h2]; exact (List.getElem?_eq_some_iff.1 hc).1
    rw [List.getElem?_toArray, getElem?_put _ _ _ _ (by simp; omega), if_neg, Array.getElem?_toList]
    · exact hv
    · rcases Nat.lt_or_ge i' i with hlt | hge
      · have : (i' + 1) * sz ≤ i * sz := Nat.mul_le_mul_right _ hlt
        rw [Nat.add_mul] at this
        omega
      · have : (i + 1) * sz ≤ i' * sz := Nat.mul_le_mul_right _ (by omega)
        rw [Nat.add_mul] at this
        omega
theorem row_room {sz cp n i : Nat} {rs : Array Value} (hs : rs.size = cp * sz) (hn : n ≤ cp) (hi : i < n) : i * sz + sz ≤ rs.size := by
  have : (i + 1) * sz ≤ cp * sz := Nat.mul_le_mul_right _ (by omega)
  rw [Nat.add_mul] at this
  omega
theorem store_run {P : Program} {G : Tie} {h h' : Heap} {w : World} (R : Rel G h w) {t : TypeId} {n base : Nat} (hn : sizeO P t = some n) {a x : V} {ra rx : Value}
    (ha : RepV G a ra) (hx : RepV G x rx) (hst : storeV base h n a x = some h') : ∃ w', (Instr.storeAt t ra rx).run P w = .ok () w' ∧ Rel G h' w' ∧ Bel G w w' := by
  unfold storeV at hst
  split at hst
  case isFalse => simp at hst
  rename_i hc
  obtain ⟨hlen, hone⟩ := hc
  have hxu : x ≠ .undef := by
    rintro rfl
    simp [V.cells, zm] at hone
  have hcells := hx.cells hxu
  have hsz : (sizeOf t).run P w = .ok n w := by
    simp only [sizeO, Option.map_eq_some_iff] at hn
    obtain ⟨i, hi, hm⟩ := hn
    simp [sizeOf, typeInfo, hi, hm]
  have hrl : rx.cells.size = n := by rw [← Array.length_toList, hcells.length, hlen]
  have hro := hcells.one hone
  split at hst
  · rename_i b off
    split at hst
    · rename_i cs eq
      split at hst
      · rename_i hle
        injection hst with hst
        subst hst
        obtain ⟨hle, _⟩ := hle
        simp only [RepV] at ha
        obtain ⟨hb, rfl⟩ := ha
        obtain ⟨h1, rs, hw, hl⟩ := R.box _ _ _ eq
        have hstore := run_storeCells_at (P := P) (G.bx b) off _ rx.cells.toList 0 rs w hw (by
          have := hl.length
          simp only [Array.length_toList] at this
          simp; omega) hro
        refine ⟨_, ?_, R.setBox (cs' := putCells cs off x.cells) (rs' := (rs.toList.take (off + 0) ++ rx.cells.toList ++ rs.toList.drop (off + 0 + rx.cells.toList.length)).toArray) eq hw (all_put h1 hone) ?_, bel_setRow R (b := b) (by unfold Tie.real; rw [eq]) _⟩
        · simp [Instr.storeAt, Instr.sureAddr, storeVar, hsz, hrl]
          simpa [hrl] using hstore
        · simpa using hl.put hcells
      · simp at hst
    · simp at hst
  · rename_i b e i off
    split at hst
    · rename_i sz e' rows eq
      split at hst
      · rename_i he
        subst he
        split at hst
        · rename_i cs hi
          split at hst
          · rename_i hle
            injection hst with hst
            subst hst
            obtain ⟨hle, _⟩ := hle
            simp only [RepV] at ha
            obtain ⟨hb, a, rfl, ha⟩ := ha
            obtain ⟨hpos, L, rs, hL, hLe, hLs, hcp, hw, hs, hB⟩ := R.row _ _ _ _ _ eq
            have := (ha L hL).2 hLe.symm
            subst this
            have hroom := row_room hs hcp.1 ((List.getElem?_eq_some_iff.1 hi).1)
            have hcl := (hB i cs hi).1
            rw [hLs]
            have hstore := run_storeCells_at (P := P) L.blk (i * sz + off) _ rx.cells.toList 0 rs w hw (by
              simp only [Array.length_toList, Nat.add_zero]
              omega) hro
            refine ⟨w.setRow L.blk (rs.toList.take (i * sz + off) ++ rx.cells.toList ++ rs.toList.drop (i * sz + off + rx.cells.toList.length)).toArray, ?_, ?_, bel_setRow R (b := b) (by unfold Tie.real; rw [eq]; simp [hL]) _⟩
            · simp [Instr.storeAt, Instr.sureAddr, storeVar, hsz, hrl]
              simpa [hrl] using hstore
            · have := R.setRowAt (rows' := rows.set i (putCells cs off x.cells)) (L' := L) (w' := w.setRow L.blk (rs.toList.take (i * sz + off) ++ rx.cells.toList ++ rs.toList.drop (i * sz + off + rx.cells.toList.length)).toArray)
                (rs' := (rs.toList.take (i * sz + off) ++ rx.cells.toList ++ rs.toList.drop (i * sz + off + rx.cells.toList.length)).toArray)
                eq hL (Nat.le_refl _) (fun _ => rfl) hLe hLs (by simpa using hcp) (.inl rfl) (by simp) (fun c hc _ => setRow_other w _ _ _ hc) (setRow_heap w _ _ _ _ _ hw)
                (by simp; omega) (hB.put hpos hi hcells hone (by omega) hroom)
              rwa [Tie.setRow_same hL] at this
          · split at hst
            · rename_i hle
              injection hst with hst
              subst hst
              obtain ⟨rfl, hle, _⟩ := hle
              simp only [RepV] at ha
              obtain ⟨hb, a, rfl, ha⟩ := ha
              obtain ⟨hpos, L, rs, hL, hLe, hLs, hcp, hw, hs, hB⟩ := R.row _ _ _ _ _ eq
              have := (ha L hL).2 hLe.symm
              subst this
              have hfl := flat_length hB
              have hmul : rows.length * sz ≤ L.cp * sz := Nat.mul_le_mul_right _ hcp.1
              rw [Nat.zero_mul, Nat.zero_add]
              have hstore := run_storeCells_at (P := P) L.blk off _ rx.cells.toList 0 rs w hw (by
                simp only [Array.length_toList, Nat.add_zero]
                omega) hro
              refine ⟨w.setRow L.blk (rs.toList.take off ++ rx.cells.toList ++ rs.toList.drop (off + rx.cells.toList.length)).toArray, ?_, ?_, bel_setRow R (b := b) (by unfold Tie.real; rw [eq]; simp [hL]) _⟩
              · simp [Instr.storeAt, Instr.sureAddr, storeVar, hsz, hrl]
                simpa [hrl] using hstore
              · have := R.setRowAt (rows' := chunk sz (putCells rows.flatten off x.cells)) (L' := L) (w' := w.setRow L.blk (rs.toList.take off ++ rx.cells.toList ++ rs.toList.drop (off + rx.cells.toList.length)).toArray)
                  (rs' := (rs.toList.take off ++ rx.cells.toList ++ rs.toList.drop (off + rx.cells.toList.length)).toArray)
                  eq hL (Nat.le_refl _) (fun _ => rfl) hLe hLs (by rw [chunk_length, putCells_length (by omega), hfl, Nat.mul_div_cancel _ hpos]; exact hcp) (.inl rfl) (by simp) (fun c hc _ => setRow_other w _ _ _ hc) (setRow_heap w _ _ _ _ _ hw)
                  (by simp; omega) (chunk_blk hpos (all_put (flat_one hB) hone) fun p c hc => ?_)
                · rwa [Tie.setRow_same hL] at this
                · rw [List.getElem?_toArray, getElem?_put _ _ _ _ (by simp; omega)]
                  unfold putCells at hc
                  rw [getElem?_put _ _ _ _ (by omega)] at hc
                  have hcl := hcells.length
                  split at hc
                  · rename_i hj
                    rw [if_pos (by omega)]
                    exact hcells.get hc
                  · rename_i hj
                    rw [if_neg (by omega), Array.getElem?_toList]
                    exact RepBlk.flat hB p c hc
            · simp at hst
        · simp at hst
      · simp at hst
    · simp at hst
  · simp at hst
end
section
theorem RepV.sc_inv {G : Tie} {v : Value} {r : Value} (h : RepV G (.sc v) r) : r = v := by simp only [RepV] at h; exact h.1
theorem RepV.int (G : Tie) (k : IntKind) (n : Int) : RepV G (.sc (.int k n)) (.int k n) := by simp [RepV, Value.oneCell']
theorem RepV.bool (G : Tie) (b : Bool) : RepV G (.sc (.bool b)) (.bool b) := by simp [RepV, Value.oneCell']
theorem RepV.str (G : Tie) (s : ByteArray) : RepV G (.sc (.string s)) (.string s) := by simp [RepV, Value.oneCell']
section
variable {P : Program} {gl : Nat → Option (List V)} {G : Tie} {en : Env} {a : Act} {w : World}
def GlobOk (G : Tie) (gl : Nat → Option (List V)) : Prop := ∀ g cs, gl g = some cs → RepV G (.eptr cs 0) (.pointer (some ⟨g, 0, none⟩))
theorem GlobOk.ext {G G' : Tie} {gl : Nat → Option (List V)} (x : Ext G G') (h : GlobOk G gl) : GlobOk G' gl := fun g cs e => (h g cs e).ext x
theorem scOf_rep {v : Value} {x : V} (h : scOf v = some x) : RepV G x v := by
  unfold scOf at h
  split at h <;> first | (simp at h; done) | (injection h with h; subst h; simp [RepV, Value.oneCell'])
theorem scOf_sc {v : Value} {x : V} (h : scOf v = some x) : x = .sc v := by
  unfold scOf at h
  split at h <;> first | (simp at h; done) | (injection h with h; exact h.symm)
theorem scsOf_rep : ∀ {l : List Value} {xs : List V}, scsOf l = some xs → RepL G xs l
  | [], xs, h => by simp [scsOf] at h; subst h; simp [RepL]
  | v :: r, xs, h => by
    simp only [scsOf, Option.bind_eq_some_iff, Option.map_eq_some_iff] at h
    obtain ⟨x, hx, ys, hy, rfl⟩ := h
    simp only [RepL]
    exact ⟨v, r, rfl, scOf_rep hx, scsOf_rep hy⟩
theorem scsOf_one : ∀ {l : List Value} {xs : List V}, scsOf l = some xs → xs.all zm = true ∧ xs.all ground = true
  | [], xs, h => by simp [scsOf] at h; subst h; simp
  | v :: r, xs, h => by
    simp only [scsOf, Option.bind_eq_some_iff, Option.map_eq_some_iff] at h
    obtain ⟨x, hx, ys, hy, rfl⟩ := h
    have := scsOf_one hy
    rw [scOf_sc hx]
    simp only [List.all_cons, zm, ground, Bool.true_and]
    exact this
theorem valOf_rep {v : Value} {x : V} (h : valOf v = some x) : RepV G x v := by
  unfold valOf at h
  split at h
  · simp only [Option.map_eq_some_iff] at h
    obtain ⟨xs, hx, rfl⟩ := h
    simp only [RepV]
    exact ⟨_, rfl, scsOf_rep hx⟩
  · exact scOf_rep h
theorem opd_rep (hgl : GlobOk G gl) (he : RepEnv G en a.tmps) {x : Operand} {y : Opd} (h : opd gl x = some y) : RepV G (y.get en) (a.eval x) := by
  cases x <;> simp only [opd] at h
  · injection h with h; subst h; exact he _
  · simp only [Option.map_eq_some_iff] at h
    obtain ⟨v, hv, rfl⟩ := h
    exact valOf_rep hv
  · simp only [Option.map_eq_some_iff] at h
    obtain ⟨cs, hv, rfl⟩ := h
    exact hgl _ _ hv
  · injection h with h; subst h; simp [Opd.get, Act.eval, RepV, RepL]
theorem opds_rep (hgl : GlobOk G gl) (he : RepEnv G en a.tmps) : ∀ {xs : List Operand} {ys : List Opd}, opds gl xs = some ys → RepL G (zh en ys) (xs.map a.eval)
  | [], ys, h => by simp [opds] at h; subst h; simp [zh, RepL]
  | x :: xs, ys, h => by
    simp only [opds, Option.bind_eq_some_iff, Option.map_eq_some_iff] at h
    obtain ⟨y, hy, zs, hz, rfl⟩ := h
    simp only [zh, List.map_cons, RepL]
    exact ⟨_, _, rfl, opd_rep hgl he hy, opds_rep hgl he hz⟩
theorem bin_run {op : BinOp} {t : TypeId} {x y v : V} {rx ry : Value} {ox oy : Operand} (hx : RepV G x rx) (hy : RepV G y ry) (h : bin op x y = some v) :
    ∃ r, (do eqGuard op t ox oy rx ry; binOp op t rx ry : Sem Value).run P w = .ok r w ∧ RepV G v r := by
  unfold bin at h
  split at h
  · rename_i k m j n
    obtain rfl := hx.sc_inv
    obtain rfl := hy.sc_inv
    have hg : (eqGuard op t ox oy (.int k m) (.int j n)).run P w = .ok () w := by
      unfold eqGuard
      cases op <;> rfl
    simp only [Sem.run_bind, hg, Result.andThen_ok]
    split at h
    · split at h
      · simp at h
      · rename_i hn
        injection h with h; subst h
        exact ⟨_, by simp only [binOp, Op.shift, if_neg hn]; rfl, RepV.int _ _ _⟩
    · split at h
      · simp at h
      · rename_i hn
        injection h with h; subst h
        exact ⟨_, by simp only [binOp, Op.shift, if_neg hn]; rfl, RepV.int _ _ _⟩
    · rename_i h1 h2
      split at h
      · rename_i hk
        subst hk
        cases op <;> simp only [zc] at h <;> simp only [binOp, ne_eq, not_true_eq_false, if_false, Op.intArith, Op.intDiv, Op.intBits, Op.intCmp]
        case shl => exact absurd rfl h1
        case shr => exact absurd rfl h2
        case quo => 
          split at h
          · simp at h
          · rename_i h0; injection h with h; subst h; rw [if_neg h0]; exact ⟨_, rfl, RepV.int _ _ _⟩
        case rem => 
          split at h
          · simp at h
          · rename_i h0; injection h with h; subst h; rw [if_neg h0]; exact ⟨_, rfl, RepV.int _ _ _⟩
        all_goals (injection h with h; subst h; exact ⟨_, rfl, by simp [RepV, Value.oneCell']⟩)
      · simp at h
  · rename_i p q
    obtain rfl := hx.sc_inv
    obtain rfl := hy.sc_inv
    have hg : (eqGuard op t ox oy (.string p) (.string q)).run P w = .ok () w := by
      unfold eqGuard
      cases op <;> rfl
    simp only [Sem.run_bind, hg, Result.andThen_ok]
    cases op <;> simp only [zE] at h <;> simp only [binOp, Op.stringOp]
    case add =>
      split at h
      · rename_i hl
        injection h with h; subst h
        unfold lim at hl
        refine ⟨.string (p ++ q), ?_, RepV.str _ _⟩
        rw [if_neg]
        · rfl
        · show ¬ _ > IntKind.i64.max
          have : IntKind.i64.max = 9223372036854775807 := by decide
          rw [this]
          omega
      · simp at h
    all_goals first
      | (simp at h; done)
      | (injection h with h; subst h; exact ⟨_, rfl, by simp [RepV, Value.oneCell']⟩)
  · simp at h
theorem eqBool_run {neg : Bool} {t : TypeId} {p q : Bool} {ox oy : Operand} (ht : P.underlying t = some .bool) :
    (do eqGuard (if neg then .neq else .eql) t ox oy (.bool p) (.bool q); binOp (if neg then .neq else .eql) t (.bool p) (.bool q) : Sem Value).run P w = .ok (.bool (if neg then !(p == q) else (p == q))) w := by
  have hg : (eqGuard (if neg then .neq else .eql) t ox oy (.bool p) (.bool q)).run P w = .ok () w := by
    unfold eqGuard
    cases neg <;> rfl
  have key : ∀ d, (Op.equalIn (d + 1) t (.bool p) (.bool q)).run P w = .ok (p == q) w := by
    intro d
    simp only [Op.equalIn, Sem.run_bind, run_underlying ht w, Result.andThen_ok]
    rfl
  have key' : (Op.equal t (.bool p) (.bool q)).run P w = .ok (p == q) w := key 9999
  simp only [Sem.run_bind, hg, Result.andThen_ok]
  cases neg
  · simp only [Bool.false_eq_true, if_false]
    unfold binOp
    simp only [Sem.run_bind, key', Result.andThen_ok]
    rfl
  · simp only [if_true]
    unfold binOp
    simp only [Sem.run_bind, key', Result.andThen_ok]
    rfl
theorem un_run {op : UnOp} {x v : V} {rx : Value} (hx : RepV G x rx) (h : unary op x = some v) : ∃ r, (Op.unary op rx).run P w = .ok r w ∧ RepV G v r := by
  unfold unary at h
  split at h
  · obtain rfl := hx.sc_inv
    split at h
    · injection h with h; subst h; exact ⟨_, rfl, RepV.int _ _ _⟩
    · injection h with h; subst h; exact ⟨_, rfl, RepV.int _ _ _⟩
    · simp at h
  · obtain rfl := hx.sc_inv
    split at h
    · injection h with h; subst h; exact ⟨_, rfl, RepV.bool _ _⟩
    · simp at h
  · simp at h
theorem part_run {t : TypeId} {n : Option Nat} (hn : shapeO P t = some n) {cs : List V} {off : Nat} {v : V} {rs : Array Value} (hc : RepL G cs rs.toList) (h : zb n cs off = some v) :
    ∃ r, (part t rs off).run P w = .ok r w ∧ RepV G v r := by
  have hs := shape_run hn w
  cases n with
  | none =>
    simp only [zb] at h
    obtain ⟨r, h1, h2⟩ := hc.get h
    rw [Array.getElem?_toList] at h1
    exact ⟨r, by simp [part, hs, h1], h2⟩
  | some k =>
    simp only [zb] at h
    split at h
    · rename_i hle
      injection h with h; subst h
      refine ⟨.agg (rs.extract off (off + k)), by simp [part, hs.1, hs.2], ?_⟩
      simp only [RepV]
      refine ⟨_, rfl, ?_⟩
      have : (rs.extract off (off + k)).toList = (rs.toList.drop off).take k := by
        simp [List.extract, Nat.add_sub_cancel_left]
      rw [this]
      exact (hc.drop off).take k
    · simp at h
theorem asNat_run {x : V} {n : Nat} {rx : Value} (hx : RepV G x rx) (h : zj x = some n) : ∃ k i, rx = .int k i ∧ 0 ≤ i ∧ i.toNat = n := by
  unfold zj at h
  split at h
  · rename_i k i
    obtain rfl := hx.sc_inv
    split at h
    · rename_i h0
      injection h with h
      exact ⟨k, i, rfl, h0, h⟩
    · simp at h
  · simp at h
theorem minmax_run (mx : Bool) (ts : Array TypeId) (ty : TypeId) : ∀ {xs : List V} {x v : V} {r : Value} {rs : List Value}, RepV G x r → RepL G xs rs → minmax mx x xs = some v →
    ∃ q, (rs.foldlM (if mx then Builtin.max2 else Builtin.min2) r : Sem Value).run P w = .ok q w ∧ RepV G v q
  | [], x, v, r, rs, hx, hs, h => by
    simp only [RepL] at hs
    subst hs
    simp only [minmax] at h
    injection h with h
    subst h
    exact ⟨r, rfl, hx⟩
  | y :: ys, x, v, r, rs, hx, hs, h => by
    simp only [RepL] at hs
    obtain ⟨q, rest, rfl, hy, hs⟩ := hs
    unfold minmax at h
    split at h
    · rename_i e; simp at e
    · rename_i e
      simp only [List.cons.injEq] at e
      obtain ⟨rfl, rfl⟩ := e
      obtain rfl := hx.sc_inv
      obtain rfl := hy.sc_inv
      split at h
      · rename_i hk
        subst hk
        obtain ⟨z, h1, h2⟩ := minmax_run mx ts ty (RepV.int G _ _) hs h
        refine ⟨z, ?_, h2⟩
        rw [List.foldlM_cons, Sem.run_bind]
        cases mx
        · simpa [Builtin.min2] using h1
        · simpa [Builtin.max2] using h1
      · simp at h
    · simp at h
end
end
section
section
variable {P : Program} {G : Tie} {w : World}
theorem eqLeaves_append (xs ys : List V) : ∀ (l m : List (Nat × LK)), eqLeaves xs ys (l ++ m) = (eqLeaves xs ys l).bind fun a => (eqLeaves xs ys m).map fun b => a && b
  | [], m => by simp [eqLeaves]
  | o :: l, m => by
    simp only [List.cons_append, eqLeaves]
    split
    · rw [eqLeaves_append xs ys l m]
      cases eqCell o.2 _ _ <;> simp
      cases eqLeaves xs ys l <;> simp
      cases eqLeaves xs ys m <;> simp [Bool.and_assoc]
    · simp
theorem eqLeaves_shift (xs ys : List V) (o k : Nat) : ∀ (l : List (Nat × LK)), l.all (fun i => decide (i.1 < k)) = true →
    eqLeaves xs ys (l.map fun i => (o + i.1, i.2)) = eqLeaves ((xs.drop o).take k) ((ys.drop o).take k) l
  | [], _ => by simp [eqLeaves]
  | p :: l, h => by
    simp only [List.all_cons, Bool.and_eq_true, decide_eq_true_eq] at h
    have hx : ∀ zs : List V, ((zs.drop o).take k)[p.1]? = zs[o + p.1]? := by
      intro zs
      rw [List.getElem?_take_of_lt h.1, List.getElem?_drop]
    simp only [List.map_cons, eqLeaves, hx]
    rw [eqLeaves_shift xs ys o k l h.2]
theorem RepV.take {G : Tie} {xs : List V} {rs : Array Value} (h : RepL G xs rs.toList) (o k : Nat) : RepV G (.agg ((xs.drop o).take k)) (.agg (rs.extract o (o + k))) := by
  simp only [RepV]
  refine ⟨_, rfl, ?_⟩
  have : (rs.extract o (o + k)).toList = (rs.toList.drop o).take k := by
    simp [List.extract, Nat.add_sub_cancel_left]
  rw [this]
  exact (h.drop o).take k
theorem eq_run (w : World) : ∀ (k d : Nat) {t : TypeId} {ls : List (Nat × LK)} {n : Option Nat} {xs ys : List V} {rxs rys : Array Value} {res : Bool} {o : Nat}, k ≤ d → leavesOf P k t = some ls → shapeO P t = some n →
    ls.all (fun i => decide (i.1 < n.getD 1)) = true →
    RepL G xs rxs.toList → RepL G ys rys.toList → eqLeaves xs ys (ls.map fun i => (o + i.1, i.2)) = some res →
    ∃ a b, (part t rxs o).run P w = .ok a w ∧ (part t rys o).run P w = .ok b w ∧ (Op.equalIn d t a b).run P w = .ok res w
  | 0, _, _, _, _, _, _, _, _, _, _, _, h, _, _, _, _, _ => by simp [leavesOf] at h
  | k + 1, d, t, ls, n, xs, ys, rxs, rys, res, o, hd, h, hn, hall, hx, hy, he => by
    obtain ⟨d, rfl⟩ : ∃ m, d = m + 1 := ⟨d - 1, by omega⟩
    have hs := shape_run hn w
    have hscal : ∀ (kd : LK), ls = [(0, kd)] → n = none → ∃ x y rx ry, (part t rxs o).run P w = .ok rx w ∧ (part t rys o).run P w = .ok ry w ∧ RepV G x rx ∧ RepV G y ry ∧ eqCell kd x y = some res := by
      rintro kd rfl rfl
      simp only [List.map_cons, List.map_nil, Nat.add_zero, eqLeaves] at he
      split at he
      · rename_i x y ex ey
        obtain ⟨rx, h1, h2⟩ := hx.get ex
        obtain ⟨ry, h3, h4⟩ := hy.get ey
        rw [Array.getElem?_toList] at h1 h3
        refine ⟨x, y, rx, ry, by simp [part, hs, h1], by simp [part, hs, h3], h2, h4, ?_⟩
        cases hq : eqCell kd x y with
        | none => simp [hq] at he
        | some q => simpa [hq] using he
      · simp at he
    have hnone : ∀ {dd : TypeDesc}, P.underlying t = some dd → (match dd with | .struct _ | .array _ _ => true | _ => false) = false → n = none := by
      intro dd hu hf
      unfold shapeO aggT at hn
      rw [hu] at hn
      simp only [Option.map_some, Option.bind_some, Option.bind_eq_some_iff] at hn
      obtain ⟨m, _, hm⟩ := hn
      cases dd <;> simp_all
    unfold leavesOf at h
    split at h
    · rename_i hu
      injection h with h
      obtain ⟨x, y, rx, ry, h1, h2, h3, h4, h5⟩ := hscal .b h.symm (hnone hu rfl)
      refine ⟨rx, ry, h1, h2, ?_⟩
      unfold eqCell at h5
      split at h5 <;> simp_all
      obtain rfl := h3.sc_inv
      obtain rfl := h4.sc_inv
      rw [run_equalIn_bool' w d t _ _ hu]
      simp_all
    · rename_i kk hu
      injection h with h
      obtain ⟨x, y, rx, ry, h1, h2, h3, h4, h5⟩ := hscal .i h.symm (hnone hu rfl)
      refine ⟨rx, ry, h1, h2, ?_⟩
      unfold eqCell at h5
      split at h5 <;> simp_all
      obtain rfl := h3.sc_inv
      obtain rfl := h4.sc_inv
      obtain ⟨rfl, h5⟩ := h5
      rw [run_equalIn_int w d t _ _ _ _ hu]
      simp_all
    · rename_i hu
      injection h with h
      obtain ⟨x, y, rx, ry, h1, h2, h3, h4, h5⟩ := hscal .s h.symm (hnone hu rfl)
      refine ⟨rx, ry, h1, h2, ?_⟩
      unfold eqCell at h5
      split at h5 <;> simp_all
      obtain rfl := h3.sc_inv
      obtain rfl := h4.sc_inv
      rw [run_equalIn_string w d t _ _ hu, ← beq_toListBytes]
      simp_all
    · rename_i fs hu
      split at h
      · simp at h
      · rename_i hst
        have hst' : P.stoodInHeld t = false := by simpa using hst
        obtain ⟨m, rfl⟩ : ∃ m, n = some m := by
          unfold shapeO aggT at hn
          rw [hu] at hn
          simp only [Option.map_some, Option.bind_some, Option.bind_eq_some_iff, if_true] at hn
          obtain ⟨m, _, hm⟩ := hn
          injection hm with hm
          exact ⟨m, hm.symm⟩
        refine ⟨.agg (rxs.extract o (o + m)), .agg (rys.extract o (o + m)), by simp [part, hs.1, hs.2], by simp [part, hs.1, hs.2], ?_⟩
        have hfo : P.fieldsOf t = fs := by unfold Program.fieldsOf; rw [hu]
        rw [run_equalIn_struct w d t _ _ (by rw [hfo]; exact hu) hst', hfo]
        rw [eqLeaves_shift xs ys o m ls (by simpa using hall)] at he
        have hX := RepV.take hx o m
        have hY := RepV.take hy o m
        simp only [RepV] at hX hY
        obtain ⟨r1, e1, hX⟩ := hX
        obtain ⟨r2, e2, hY⟩ := hY
        injection e1 with e1
        injection e2 with e2
        subst e1
        subst e2
        generalize (xs.drop o).take m = xs' at *
        generalize (ys.drop o).take m = ys' at *
        generalize rxs.extract o (o + m) = rxs' at *
        generalize rys.extract o (o + m) = rys' at *
        clear hall hn hscal hnone hfo hu hs hst hst'
        generalize fs.toList = fl at h
        induction fl generalizing ls res with
        | nil => 
          simp only [leavesFs, Option.some.injEq] at h
          subst h
          simp only [eqLeaves, Option.some.injEq] at he
          subst he
          simp [Op.eqFields]
        | cons f fl ih =>
          unfold leavesFs at h
          unfold Op.eqFields
          split at h
          · rename_i hname
            rw [if_neg (by simpa using hname)]
            exact ih _ _ he h
          · rename_i hname
            rw [if_pos hname]
            simp only [Option.bind_eq_some_iff] at h
            obtain ⟨l, hl, n', hn', h⟩ := h
            split at h
            · rename_i hal
              simp only [Option.map_eq_some_iff] at h
              obtain ⟨l2, hl2, rfl⟩ := h
              rw [eqLeaves_append] at he
              simp only [Option.bind_eq_some_iff, Option.map_eq_some_iff] at he
              obtain ⟨q1, hq1, q2, hq2, rfl⟩ := he
              obtain ⟨a, b, ha, hb, hab⟩ := eq_run w k d (by omega) hl hn' hal hX hY hq1
              simp only [Sem.run_bind, ha, hb, hab, Result.andThen_ok, Sem.run_ite]
              cases q1
              · simp
              · simpa using ih _ _ hq2 hl2
            · simp at h
    · simp at h
end
end
section
section
variable {P : Program} {G : Tie} {w : World}
def NK.nilV : NK → Value
  | .ptr => .pointer none
  | .func => .nilFunc
  | .iface => .nilIface
  | .map => .map none
  | .slice => .slice none 0 0
theorem nil_ptr {t e : TypeId} {x : V} {rx : Value} {b : Bool} (ht : P.underlying t = some (.pointer e)) (hx : RepV G x rx) (hb : isNil .ptr x = some b) (m : Nat) :
    (Op.equalIn (m + 1) t rx (.pointer none)).run P w = .ok b w ∧ (Op.equalIn (m + 1) t (.pointer none) rx).run P w = .ok b w := by
  have key : ∀ p : Option Addr, (Op.equalIn (m + 1) t (.pointer p) (.pointer none)).run P w = .ok p.isNone w ∧ (Op.equalIn (m + 1) t (.pointer none) (.pointer p)).run P w = .ok p.isNone w := by
    intro p
    cases p <;> simp only [Op.equalIn, Sem.run_bind, run_underlying ht w, Result.andThen_ok] <;> exact ⟨rfl, rfl⟩
  obtain ⟨p, rfl, rfl⟩ : ∃ p, rx = .pointer p ∧ b = p.isNone := by
    unfold isNil at hb
    split at hb <;> first | (simp at hb; done) | skip
    all_goals (injection hb with hb; subst hb)
    all_goals simp_all only [reduceCtorEq, RepV]
    · obtain ⟨rfl, _⟩ := hx; exact ⟨none, rfl, rfl⟩
    · obtain ⟨_, rfl⟩ := hx; exact ⟨_, rfl, rfl⟩
    · obtain ⟨_, a, rfl, _⟩ := hx; exact ⟨_, rfl, rfl⟩
    · obtain ⟨_, o, rfl, _⟩ := hx; exact ⟨_, rfl, rfl⟩
  exact key p
theorem nil_func {t : TypeId} {ps rs : Array TypeId} {vd : Bool} {x : V} {rx : Value} {b : Bool} (ht : P.underlying t = some (.func ps rs vd)) (hx : RepV G x rx) (hb : isNil .func x = some b) (m : Nat) :
    (Op.equalIn (m + 1) t rx .nilFunc).run P w = .ok b w ∧ (Op.equalIn (m + 1) t .nilFunc rx).run P w = .ok b w := by
  unfold isNil at hb
  split at hb <;> first | (simp at hb; done) | skip
  all_goals (injection hb with hb; subst hb)
  all_goals simp_all only [reduceCtorEq, RepV]
  · obtain ⟨rfl, _⟩ := hx
    simp only [Op.equalIn, Sem.run_bind, run_underlying ht w, Result.andThen_ok]
    exact ⟨rfl, rfl⟩
  · obtain ⟨ra, rc, rfl, _⟩ := hx
    simp only [Op.equalIn, Sem.run_bind, run_underlying ht w, Result.andThen_ok]
    exact ⟨rfl, rfl⟩
theorem nil_iface {t : TypeId} {ms : Array (String × TypeId)} {x : V} {rx : Value} {b : Bool} (ht : P.underlying t = some (.interface ms)) (hx : RepV G x rx) (hb : isNil .iface x = some b) (m : Nat) :
    (Op.equalIn (m + 1) t rx .nilIface).run P w = .ok b w ∧ (Op.equalIn (m + 1) t .nilIface rx).run P w = .ok b w := by
  unfold isNil at hb
  split at hb <;> first | (simp at hb; done) | skip
  all_goals (injection hb with hb; subst hb)
  all_goals simp_all only [reduceCtorEq, RepV]
  · obtain ⟨rfl, _⟩ := hx
    simp only [Op.equalIn, Sem.run_bind, run_underlying ht w, Result.andThen_ok]
    exact ⟨rfl, rfl⟩
  · obtain ⟨rv, rfl, _⟩ := hx
    simp only [Op.equalIn, Sem.run_bind, run_underlying ht w, Result.andThen_ok]
    exact ⟨rfl, rfl⟩
theorem nil_map {t k e : TypeId} {x : V} {rx : Value} {b : Bool} (ht : P.underlying t = some (.map k e)) (hx : RepV G x rx) (hb : isNil .map x = some b) (m : Nat) :
    (Op.equalIn (m + 1) t rx (.map none)).run P w = .ok b w ∧ (Op.equalIn (m + 1) t (.map none) rx).run P w = .ok b w := by
  unfold isNil at hb
  split at hb <;> first | (simp at hb; done) | skip
  all_goals (injection hb with hb; subst hb)
  all_goals simp_all only [reduceCtorEq, RepV]
  · obtain ⟨rfl, _⟩ := hx
    simp only [Op.equalIn, Sem.run_bind, run_underlying ht w, Result.andThen_ok]
    exact ⟨rfl, rfl⟩
  · obtain ⟨_, rfl⟩ := hx
    simp only [Op.equalIn, Sem.run_bind, run_underlying ht w, Result.andThen_ok]
    exact ⟨rfl, rfl⟩
theorem nil_slice {t e : TypeId} {x : V} {rx : Value} {b : Bool} (ht : P.underlying t = some (.slice e)) (hx : RepV G x rx) (hb : isNil .slice x = some b) (m : Nat) :
    (Op.equalIn (m + 1) t rx (.slice none 0 0)).run P w = .ok b w ∧ (Op.equalIn (m + 1) t (.slice none 0 0) rx).run P w = .ok b w := by
  have key : ∀ (p : Option Addr) (l c : Nat), (Op.equalIn (m + 1) t (.slice p l c) (.slice none 0 0)).run P w = .ok p.isNone w ∧ (Op.equalIn (m + 1) t (.slice none 0 0) (.slice p l c)).run P w = .ok p.isNone w := by
    intro p l c
    cases p <;> simp only [Op.equalIn, Sem.run_bind, run_underlying ht w, Result.andThen_ok] <;> exact ⟨rfl, rfl⟩
  obtain ⟨p, l, c, rfl, rfl⟩ : ∃ p l c, rx = .slice p l c ∧ b = p.isNone := by
    unfold isNil at hb
    split at hb <;> first | (simp at hb; done) | skip
    all_goals (injection hb with hb; subst hb)
    all_goals simp_all only [reduceCtorEq, RepV]
    · obtain ⟨rfl, _⟩ := hx; exact ⟨none, 0, 0, rfl, rfl⟩
    · obtain ⟨_, a, c, rfl, _⟩ := hx; exact ⟨_, _, _, rfl, rfl⟩
    · obtain ⟨a, c, rfl, _, _, _, b, o, ha, _, _⟩ := hx; rw [ha (by simp)]; exact ⟨_, _, _, rfl, rfl⟩
  exact key p l c
theorem isNil_run {t : TypeId} {d : TypeDesc} {k : NK} {x : V} {rx : Value} {b neg : Bool} (ht : P.underlying t = some d) (hk : nkOf d = some k) (hx : RepV G x rx) (hb : isNil k x = some b)
    (ox oy : Operand) (hc : (∃ v, ox = .const v) ∨ (∃ v, oy = .const v)) :
    (do eqGuard (if neg then .neq else .eql) t ox oy rx k.nilV; binOp (if neg then .neq else .eql) t rx k.nilV : Sem Value).run P w = .ok (.bool (if neg then !b else b)) w ∧
    (do eqGuard (if neg then .neq else .eql) t ox oy k.nilV rx; binOp (if neg then .neq else .eql) t k.nilV rx : Sem Value).run P w = .ok (.bool (if neg then !b else b)) w := by
  have hE : (Op.equal t rx k.nilV).run P w = .ok b w ∧ (Op.equal t k.nilV rx).run P w = .ok b w := by
    cases d <;> simp only [nkOf, Option.some.injEq, reduceCtorEq] at hk <;> subst hk
    · exact nil_ptr ht hx hb 9999
    · exact nil_slice ht hx hb 9999
    · exact nil_map ht hx hb 9999
    · exact nil_func ht hx hb 9999
    · exact nil_iface ht hx hb 9999
  have hshape : (∃ p, rx = .pointer p) ∨ rx = .nilFunc ∨ (∃ f a c, rx = .func f a c) ∨ rx = .nilIface ∨ (∃ u v, rx = .iface u v) ∨ (∃ r, rx = .map r) ∨ (∃ p l c, rx = .slice p l c) := by
    unfold isNil at hb
    split at hb <;> first | (simp at hb; done) | skip
    all_goals simp only [RepV] at hx
    · exact .inl ⟨_, hx.1⟩
    · exact .inr (.inl hx.1)
    · exact .inr (.inr (.inr (.inl hx.1)))
    · exact .inr (.inr (.inr (.inr (.inr (.inl ⟨_, hx.1⟩)))))
    · exact .inr (.inr (.inr (.inr (.inr (.inr ⟨_, _, _, hx.1⟩)))))
    · exact .inl ⟨_, hx.2⟩
    · obtain ⟨_, a, e, _⟩ := hx; exact .inl ⟨_, e⟩
    · obtain ⟨_, o, e, _⟩ := hx; exact .inl ⟨_, e⟩
    · obtain ⟨ra, rc, e, _⟩ := hx; exact .inr (.inr (.inl ⟨_, _, _, e⟩))
    · obtain ⟨rv, e, _⟩ := hx; exact .inr (.inr (.inr (.inr (.inl ⟨_, _, e⟩))))
    · exact .inr (.inr (.inr (.inr (.inr (.inl ⟨_, hx.2⟩)))))
    · obtain ⟨_, a, c, e, _⟩ := hx; exact .inr (.inr (.inr (.inr (.inr (.inr ⟨_, _, _, e⟩)))))
    · obtain ⟨a, c, e, _⟩ := hx; exact .inr (.inr (.inr (.inr (.inr (.inr ⟨_, _, _, e⟩)))))
  have hG : ∀ (op : BinOp), (eqGuard op t ox oy rx k.nilV).run P w = .ok () w ∧ (eqGuard op t ox oy k.nilV rx).run P w = .ok () w := by
    intro op
    unfold eqGuard
    rcases hc with ⟨v, rfl⟩ | ⟨v, rfl⟩ <;> rcases hshape with ⟨p, rfl⟩ | rfl | ⟨f, a, c, rfl⟩ | rfl | ⟨u, v, rfl⟩ | ⟨r, rfl⟩ | ⟨p, l, c, rfl⟩ <;> cases k <;> cases op <;>
      first | exact ⟨rfl, rfl⟩ | (simp [NK.nilV]; done)
  have hB : ∀ (p q : Value), (p = rx ∧ q = k.nilV ∨ p = k.nilV ∧ q = rx) → (Op.equal t p q).run P w = .ok b w → (binOp .eql t p q).run P w = .ok (.bool b) w ∧ (binOp .neq t p q).run P w = .ok (.bool !b) w := by
    intro p q hpq he
    have h1 : binOp .eql t p q = (do pure (.bool (← Op.equal t p q))) ∧ binOp .neq t p q = (do pure (.bool (!(← Op.equal t p q)))) := by
      rcases hpq with ⟨rfl, rfl⟩ | ⟨rfl, rfl⟩ <;> rcases hshape with ⟨p, rfl⟩ | rfl | ⟨f, a, c, rfl⟩ | rfl | ⟨u, v, rfl⟩ | ⟨r, rfl⟩ | ⟨p, l, c, rfl⟩ <;> cases k <;> exact ⟨rfl, rfl⟩
    rw [h1.1, h1.2]
    simp only [Sem.run_bind, he, Result.andThen_ok]
    exact ⟨rfl, rfl⟩
  constructor
  · simp only [Sem.run_bind, (hG _).1, Result.andThen_ok]
    cases neg
    · exact (hB _ _ (.inl ⟨rfl, rfl⟩) hE.1).1
    · exact (hB _ _ (.inl ⟨rfl, rfl⟩) hE.1).2
  · simp only [Sem.run_bind, (hG _).2, Result.andThen_ok]
    cases neg
    · exact (hB _ _ (.inr ⟨rfl, rfl⟩) hE.2).1
    · exact (hB _ _ (.inr ⟨rfl, rfl⟩) hE.2).2
end
end
section
section
variable {P : Program} {G : Tie} {w : World}
theorem eqGuardType_false : ∀ (k d : Nat) {t : TypeId} {ls : List (Nat × LK)}, k ≤ d → leavesOf P k t = some ls → P.eqGuardType d t = false
  | 0, _, _, _, _, h => by simp [leavesOf] at h
  | k + 1, d, t, ls, hd, h => by
    obtain ⟨d, rfl⟩ : ∃ m, d = m + 1 := ⟨d - 1, by omega⟩
    unfold leavesOf at h
    split at h
    · rename_i hu; simp [Program.eqGuardType, hu]
    · rename_i hu; simp [Program.eqGuardType, hu]
    · rename_i hu; simp [Program.eqGuardType, hu]
    · rename_i fs hu
      split at h
      · simp at h
      · simp only [Program.eqGuardType, hu]
        rw [← Array.any_toList]
        clear hu
        generalize fs.toList = fl at h
        induction fl generalizing ls with
        | nil => rfl
        | cons f fl ih =>
          unfold leavesFs at h
          simp only [List.any_cons, Bool.or_eq_false_iff]
          split at h
          · rename_i hn
            exact ⟨by simp [hn], ih _ h⟩
          · simp only [Option.bind_eq_some_iff] at h
            obtain ⟨l, hl, n, hn, h⟩ := h
            split at h
            · simp only [Option.map_eq_some_iff] at h
              obtain ⟨l2, hl2, _⟩ := h
              refine ⟨?_, ih _ hl2⟩
              rw [eqGuardType_false k d (by omega) hl]
              simp
            · simp at h
    · simp at h
theorem eqAgg_run {t : TypeId} {fs : Array Field} {ls : List (Nat × LK)} {xs ys : List V} {rx ry : Value} {res neg : Bool} {ox oy : Operand} (ht : P.underlying t = some (.struct fs)) (hl : leavesOf P 8 t = some ls)
    (hx : RepV G (.agg xs) rx) (hy : RepV G (.agg ys) ry) (h : eqLeaves xs ys ls = some res) :
    (do eqGuard (if neg then .neq else .eql) t ox oy rx ry; binOp (if neg then .neq else .eql) t rx ry : Sem Value).run P w = .ok (.bool (if neg then !res else res)) w := by
  simp only [RepV] at hx hy
  obtain ⟨rxs, rfl, hx⟩ := hx
  obtain ⟨rys, rfl, hy⟩ := hy
  have hg := run_eqGuard_agg (P := P) w (if neg then .neq else .eql) t ox oy rxs rys (eqGuardType_false 8 P.depth (by unfold Program.depth Made.depth; omega) hl)
  have hst : P.stoodInHeld t = false := by
    unfold leavesOf at hl
    rw [ht] at hl
    simp only at hl
    split at hl
    · simp at hl
    · rename_i h; simpa using h
  have hfo : P.fieldsOf t = fs := by unfold Program.fieldsOf; rw [ht]
  have hE : (Op.equalIn 10000 t (.agg rxs) (.agg rys)).run P w = .ok res w := by
    rw [run_equalIn_struct w 9999 t _ _ (by rw [hfo]; exact ht) hst, hfo]
    unfold leavesOf at hl
    rw [ht] at hl
    simp only [hst, Bool.false_eq_true, if_false] at hl
    clear hfo hst hg ht
    generalize fs.toList = fl at hl
    induction fl generalizing ls res with
    | nil =>
      simp only [leavesFs, Option.some.injEq] at hl
      subst hl
      simp only [eqLeaves, Option.some.injEq] at h
      subst h
      simp [Op.eqFields]
    | cons f fl ih =>
      unfold leavesFs at hl
      unfold Op.eqFields
      split at hl
      · rename_i hname
        rw [if_neg (by simpa using hname)]
        exact ih h hl
      · rename_i hname
        rw [if_pos hname]
        simp only [Option.bind_eq_some_iff] at hl
        obtain ⟨l, hl1, n', hn', hl⟩ := hl
        split at hl
        · rename_i hal
          simp only [Option.map_eq_some_iff] at hl
          obtain ⟨l2, hl2, rfl⟩ := hl
          rw [eqLeaves_append] at h
          simp only [Option.bind_eq_some_iff, Option.map_eq_some_iff] at h
          obtain ⟨q1, hq1, q2, hq2, rfl⟩ := h
          obtain ⟨a, b, ha, hb, hab⟩ := eq_run w 7 9999 (by omega) hl1 hn' hal hx hy hq1
          simp only [Sem.run_bind, ha, hb, hab, Result.andThen_ok, Sem.run_ite]
          cases q1
          · simp
          · simpa using ih hq2 hl2
        · simp at hl
  simp only [Sem.run_bind, hg, Result.andThen_ok]
  cases neg
  · simp only [Bool.false_eq_true, if_false]
    rw [run_eql_struct, hE]
    rfl
  · simp only [if_true]
    rw [run_neq_struct, hE]
    rfl
theorem fieldAddr_run {t : TypeId} {fs : Array Field} {f : Field} {i s : Nat} {x v : V} {rx : Value} (ht : P.underlying t = some (.struct fs)) (hf : fs[i]? = some f) (hs : sizeO P f.type = some s) (hpos : 0 < s)
    (hx : RepV G x rx) (h : zq f.offset x = some v) :
    ∃ r, (Instr.fieldAt t rx i).run P w = .ok r w ∧ RepV G v r := by
  have hsz : (sizeOf f.type).run P w = .ok s w := by
    simp only [sizeO, Option.map_eq_some_iff] at hs
    obtain ⟨i, hi, hm⟩ := hs
    simp [sizeOf, typeInfo, hi, hm]
  have key0 : ∀ a : Addr, (Instr.fieldAt t (.pointer (some a)) i).run P w = .ok (.pointer (some (a.add f.offset))) w := by
    intro a
    simp [Instr.fieldAt, run_underlying ht w, hf, Instr.sureAddr, fieldPlace, hsz, show s ≠ 0 by omega]
  have key : ∀ b o, (Instr.fieldAt t (.pointer (some ⟨b, o, none⟩)) i).run P w = .ok (.pointer (some ⟨b, o + f.offset, none⟩)) w := by
    intro b o
    rw [key0, add_none]
  cases x <;> simp only [zq, reduceCtorEq] at h
  · injection h with h; subst h
    simp only [RepV] at hx
    obtain ⟨hb, rfl⟩ := hx
    exact ⟨_, key _ _, by simp only [RepV]; exact ⟨hb, trivial⟩⟩
  · injection h with h; subst h
    simp only [RepV] at hx
    obtain ⟨hb, a, rfl, ha⟩ := hx
    refine ⟨_, key0 a, ?_⟩
    simp only [RepV]
    refine ⟨hb, _, rfl, fun L hL => ⟨(ha L hL).1, fun he => ?_⟩⟩
    rw [(ha L hL).2 he, add_none, Nat.add_assoc]
  · injection h with h; subst h
    simp only [RepV] at hx
    obtain ⟨b, o, rfl, hg, hF⟩ := hx
    refine ⟨_, key _ _, ?_⟩
    simp only [RepV]
    exact ⟨b, o, by rw [Nat.add_assoc], hg, hF⟩
theorem sizeO_run {t : TypeId} {s : Nat} (hs : sizeO P t = some s) (w : World) : (sizeOf t).run P w = .ok s w := by
  simp only [sizeO, Option.map_eq_some_iff] at hs
  obtain ⟨i, hi, hm⟩ := hs
  simp [sizeOf, typeInfo, hi, hm]
theorem field_run {t : TypeId} {fs : Array Field} {f : Field} {i : Nat} {n : Option Nat} {cs : List V} {v : V} {rx : Value} (ht : P.underlying t = some (.struct fs)) (hf : fs[i]? = some f) (hn : shapeO P f.type = some n)
    (hx : RepV G (.agg cs) rx) (h : zb n cs f.offset = some v) : ∃ r, (Instr.field t rx i).run P w = .ok r w ∧ RepV G v r := by
  simp only [RepV] at hx
  obtain ⟨rs, rfl, hx⟩ := hx
  obtain ⟨r, h1, h2⟩ := part_run (P := P) (w := w) hn hx h
  exact ⟨r, by simp [Instr.field, run_underlying ht w, hf, asAgg, h1], h2⟩
theorem idxArr_run {t e : TypeId} {m : Nat} {n : Option Nat} {s : Nat} {cs : List V} {v x : V} {rx ri : Value} {k : Nat} (ht : P.underlying t = some (.array m e)) (hn : shapeO P e = some n) (hs : sizeO P e = some s)
    (hx : RepV G (.agg cs) rx) (hi : RepV G x ri) (hk : zj x = some k) (hlt : k < m) (h : zb n cs (k * s) = some v) : ∃ r, (Instr.index t rx ri).run P w = .ok r w ∧ RepV G v r := by
  obtain ⟨kk, i, rfl, h0, rfl⟩ := asNat_run hi hk
  simp only [RepV] at hx
  obtain ⟨rs, rfl, hx⟩ := hx
  obtain ⟨r, h1, h2⟩ := part_run (P := P) (w := w) hn hx h
  refine ⟨r, ?_, h2⟩
  have : 0 ≤ i ∧ i < (m : Int) := ⟨h0, by omega⟩
  simp [Instr.index, asIntOf, run_underlying ht w, this, sizeO_run hs w, h1]
theorem idxStr_run {t : TypeId} {s : ByteArray} {x : V} {rx ri : Value} {k : Nat} {c : UInt8} (ht : P.underlying t = some .string) (hx : RepV G (.sc (.string s)) rx) (hi : RepV G x ri) (hk : zj x = some k) (h : s[k]? = some c) :
    (Instr.index t rx ri).run P w = .ok (.int .u8 c.toNat) w := by
  obtain ⟨kk, i, rfl, h0, rfl⟩ := asNat_run hi hk
  obtain rfl := hx.sc_inv
  simp [Instr.index, asIntOf, run_underlying ht w, h0, h]
theorem indexA_run {t e : TypeId} {m s k : Nat} {x v y : V} {rx ri : Value} (ht : P.underlying t = some (.array m e)) (hs : sizeO P e = some s) (hx : RepV G x rx) (hi : RepV G y ri) (hk : zj y = some k) (hlt : k < m)
    (h : zq (k * s) x = some v) :
    ∃ r, (Instr.indexAt t rx ri).run P w = .ok r w ∧ RepV G v r := by
  obtain ⟨kk, i, rfl, h0, rfl⟩ := asNat_run hi hk
  have hlt' : 0 ≤ i ∧ i < (m : Int) := ⟨h0, by omega⟩
  have key0 : ∀ a : Addr, (Instr.indexAt t (.pointer (some a)) (.int kk i)).run P w = .ok (.pointer (some (a.add (i.toNat * s)))) w := by
    intro a
    simp [Instr.indexAt, asIntOf, run_underlying ht w, Instr.sureAddr, hlt', sizeO_run hs w]
  cases x <;> simp only [zq, reduceCtorEq] at h
  · injection h with h; subst h
    simp only [RepV] at hx
    obtain ⟨hb, rfl⟩ := hx
    exact ⟨_, key0 _, by simp only [RepV, add_none]; exact ⟨hb, trivial⟩⟩
  · injection h with h; subst h
    simp only [RepV] at hx
    obtain ⟨hb, a, rfl, ha⟩ := hx
    refine ⟨_, key0 a, ?_⟩
    simp only [RepV]
    refine ⟨hb, _, rfl, fun L hL => ⟨(ha L hL).1, fun he => ?_⟩⟩
    rw [(ha L hL).2 he, add_none, Nat.add_assoc]
  · injection h with h; subst h
    simp only [RepV] at hx
    obtain ⟨b, o, rfl, hg, hF⟩ := hx
    refine ⟨_, key0 _, ?_⟩
    simp only [RepV, add_none]
    exact ⟨b, o, by rw [Nat.add_assoc], hg, hF⟩
theorem indexS_run {h : Heap} (R : Rel G h w) {t e : TypeId} {s k : Nat} {x v y : V} {rx ri : Value} (ht : P.underlying t = some (.slice e)) (hs : sizeO P e = some s) (hx : RepV G x rx) (hi : RepV G y ri) (hk : zj y = some k)
    (hv : zi h s k x = some v) :
    ∃ r, (Instr.indexAt t rx ri).run P w = .ok r w ∧ RepV G v r := by
  obtain ⟨kk, i, rfl, h0, rfl⟩ := asNat_run hi hk
  have key0 : ∀ (a : Addr) (len cap : Nat), i.toNat < len → (Instr.indexAt t (.slice (some a) len cap) (.int kk i)).run P w = .ok (.pointer (some (a.add (i.toNat * s)))) w := by
    intro a len cap hl
    have hlt' : 0 ≤ i ∧ i < (len : Int) := ⟨h0, by omega⟩
    simp [Instr.indexAt, asIntOf, run_underlying ht w, hlt', sizeO_run hs w]
  cases x <;> simp only [zi, reduceCtorEq] at hv
  · split at hv
    · rename_i hz
      subst hz
      simp only [Option.map_eq_some_iff] at hv
      obtain ⟨cs, hcs, rfl⟩ := hv
      simp only [RepV] at hx
      obtain ⟨a, cap, rfl, hl, he, hg, b, o, ha, _, hR⟩ := hx
      have hlt := (List.getElem?_eq_some_iff.1 hcs).1
      have hne : _ ≠ [] := List.ne_nil_of_length_pos (Nat.lt_of_le_of_lt (Nat.zero_le _) hlt)
      rw [ha hne]
      refine ⟨_, key0 _ _ _ hlt, ?_⟩
      obtain ⟨_, hF⟩ := hR.get hcs
      simp only [RepV, add_none]
      refine ⟨_, _, rfl, ?_, hF⟩
      rw [List.all_eq_true] at hg
      exact hg cs (List.mem_of_getElem? hcs)
    · simp at hv
  · split at hv
    · rename_i z rs hr
      split at hv
      · rename_i hc
        obtain ⟨rfl, hkl, hol⟩ := hc
        injection hv with hv; subst hv
        simp only [RepV] at hx
        obtain ⟨hb, a, cap, rfl, hL⟩ := hx
        refine ⟨_, key0 _ _ _ hkl, ?_⟩
        simp only [RepV]
        refine ⟨hb, _, rfl, fun L hL' => ⟨(hL L hL').1, fun he => ?_⟩⟩
        obtain ⟨_, _, _, L2, _, hL2, _, hLs, _⟩ := R.rowAt hr
        rw [hL'] at hL2
        injection hL2 with hL2
        subst hL2
        have h3 := (hL L hL').2 he
        rw [h3.2.2 (by omega), add_none, hLs, Nat.add_mul]
        rfl
      · simp at hv
    · simp at hv
theorem nilCheck_run {h : Heap} {v : V} {h' : Heap} {ρ : Operand → Value} {o : Oper} {ox : Operand} {ax : Opd} {en : Env} {base : Nat} (ho : o.op = .nilCheck ox) (hx : RepV G (ax.get en) (ρ ox)) (hs : step base en h (.nilCheck ax) = some (v, h')) :
    (execOp ρ o).run P w = .ok (.value (ρ ox)) w ∧ RepV G v (ρ ox) ∧ h' = h := by
  unfold execOp
  simp only [ho]
  simp only [step] at hs
  generalize hq : ax.get en = q at hs hx
  cases q <;> first | (simp only [reduceCtorEq] at hs; done) | skip
  · injection hs with hs
    simp only [Prod.mk.injEq] at hs
    obtain ⟨rfl, rfl⟩ := hs
    refine ⟨?_, hx, rfl⟩
    simp only [RepV] at hx
    rw [hx.2]
    rfl
  · injection hs with hs
    simp only [Prod.mk.injEq] at hs
    obtain ⟨rfl, rfl⟩ := hs
    refine ⟨?_, hx, rfl⟩
    simp only [RepV] at hx
    obtain ⟨_, a, hr, _⟩ := hx
    rw [hr]
    rfl
  · injection hs with hs
    simp only [Prod.mk.injEq] at hs
    obtain ⟨rfl, rfl⟩ := hs
    refine ⟨?_, hx, rfl⟩
    simp only [RepV] at hx
    obtain ⟨b, oo, hr, _⟩ := hx
    rw [hr]
    rfl
  · rename_i f a c
    cases f <;> first | (simp only [reduceCtorEq] at hs; done) | skip
    injection hs with hs
    simp only [Prod.mk.injEq] at hs
    obtain ⟨rfl, rfl⟩ := hs
    refine ⟨?_, hx, rfl⟩
    simp only [RepV] at hx
    obtain ⟨ra, rc, hr, _⟩ := hx
    rw [hr]
    rfl
end
end
section
section
variable {P : Program} {G : Tie} {w : World}
def OB (d : Nat) (o : Option Value) (n : Nat) : Prop := (o = none ∧ n = d) ∨ ∃ k i, o = some (.int k i) ∧ 0 ≤ i ∧ i.toNat = n
theorem sliceBound_run {k : IntKind} {i : Int} {y : Nat} {code : BoundsCode} (h0 : 0 ≤ i) (h1 : i.toNat ≤ y) : (Instr.sliceBound (.int k i) y code).run P w = .ok i.toNat w := by
  have : 0 ≤ i ∧ i ≤ (y : Int) := ⟨h0, by omega⟩
  simp [Instr.sliceBound, asIntOf, this]
theorem bounds_run {b : Bool} {len cap l e m : Nat} {low high mx : Option Value} (hl : OB 0 low l) (hh : OB len high e) (hm : OB cap mx m) (hn : high = none → mx = none) (h1 : l ≤ e) (h2 : e ≤ m) (h3 : m ≤ cap) :
    (Instr.sliceBounds b len cap low high mx).run P w = .ok (l, e, m) w := by
  unfold Instr.sliceBounds
  rcases hm with ⟨rfl, rfl⟩ | ⟨km, im, rfl, hm0, rfl⟩
  · rcases hh with ⟨rfl, rfl⟩ | ⟨kh, ih, rfl, hh0, rfl⟩
    · rcases hl with ⟨rfl, rfl⟩ | ⟨kl, il, rfl, hl0, rfl⟩
      · simp
      · simp [sliceBound_run hl0 h1]
    · rcases hl with ⟨rfl, rfl⟩ | ⟨kl, il, rfl, hl0, rfl⟩
      · simp [sliceBound_run hh0 h2]
      · simp [sliceBound_run hl0 h1, sliceBound_run hh0 h2]
  · rcases hh with ⟨rfl, rfl⟩ | ⟨kh, ih, rfl, hh0, rfl⟩
    · simp at hn
    · rcases hl with ⟨rfl, rfl⟩ | ⟨kl, il, rfl, hl0, rfl⟩
      · simp [sliceBound_run hm0 h3, sliceBound_run hh0 h2]
      · simp [sliceBound_run hm0 h3, sliceBound_run hl0 h1, sliceBound_run hh0 h2]
theorem slice_run_raw {t e : TypeId} {s len cap l h m : Nat} {a : Option Addr} {low high mx : Option Value} (ht : P.underlying t = some (.slice e)) (hs : sizeO P e = some s) (hl : OB 0 low l) (hh : OB len high h) (hm : OB cap mx m)
    (hn : high = none → mx = none) (h1 : l ≤ h) (h2 : h ≤ m) (h3 : m ≤ cap) :
    (Instr.sliceAt t (.slice a len cap) low high mx).run P w = .ok (.slice (if m = l then a else a.map (·.add (l * s))) (h - l) (m - l)) w := by
  simp [Instr.sliceAt, Instr.slice, run_underlying ht w, bounds_run hl hh hm hn h1 h2 h3, sizeO_run hs w]
theorem sliceV_run {h h' : Heap} (R : Rel G h w) {t e : TypeId} {s l : Nat} {hi mx : Option Nat} {x v : V} {rx : Value} {low high rmx : Option Value} (ht : P.underlying t = some (.slice e)) (hs : sizeO P e = some s)
    (hx : RepV G x rx) (hl : OB 0 low l) (hh : ∀ d, OB d high (hi.getD d)) (hm : ∀ d, OB d rmx (mx.getD d)) (hn : high = none → rmx = none) (hmx : mx = none ↔ rmx = none) (hn' : hi = none → mx = none)
    (hv : zg h s x l hi mx = some (v, h')) :
    ∃ r G', (Instr.sliceAt t rx low high rmx).run P w = .ok r w ∧ Ext G G' ∧ Rel G' h' w ∧ RepV G' v r := by
  unfold zg at hv
  split at hv
  · rename_i ex z rs
    simp only [RepV] at hx
    obtain ⟨a, cap, rfl, hlc, hex, hg, b, o, ha, _, hR⟩ := hx
    split at hv
    · rename_i hc
      obtain ⟨hz, h1, h2, h3, h4⟩ := hc
      injection hv with hv
      simp only [Prod.mk.injEq] at hv
      obtain ⟨rfl, rfl⟩ := hv
      have hmc : mx.getD cap ≤ cap := by
        cases mx with
        | none => simp
        | some m => simp at h3 ⊢; omega
      have hem : hi.getD rs.length ≤ mx.getD cap := by
        cases mx with
        | none => simp; omega
        | some m => simp at h4 ⊢; omega
      refine ⟨_, G, slice_run_raw ht hs hl (hh _) (hm _) hn h1 hem hmc, Ext.refl G, R, ?_⟩
      generalize hE : hi.getD rs.length = E at *
      have hlen : ((rs.drop l).take (E - l)).length = E - l := by simp; omega
      simp only [RepV]
      refine ⟨_, _, by rw [hlen], by rw [hlen]; omega, ?_, ?_, b, o + l * z, ?_, ?_, ?_⟩
      · intro hx
        rw [hlen]
        cases mx with
        | none =>
          have hx' : ex.isFull = true ∧ E = rs.length := by
            simp only [zp] at hx
            split at hx
            · rename_i hq; simpa using hq
            · simp [Cp.isFull] at hx
          have := hex hx'.1
          simp
          omega
        | some m =>
          have hx' : m = E := by
            simp only [zp] at hx
            split at hx
            · rename_i hq; simpa using hq
            · simp [Cp.isFull] at hx
          simp
          omega
      · rw [List.all_eq_true] at hg ⊢
        exact fun y hy => hg y (List.mem_of_mem_drop (List.mem_of_mem_take hy))
      · intro hne
        have hlt : l < E := by
          rcases Nat.lt_or_ge l E with h | h
          · exact h
          · exfalso; apply hne; rw [show E - l = 0 by omega]; rfl
        have hrs : rs ≠ [] := by
          rintro rfl
          simp at h2
          omega
        have hzs : z = s := by
          simp only [Bool.or_eq_true, beq_iff_eq] at hz
          rcases hz with hz | hz
          · exact absurd (List.isEmpty_iff.1 hz) hrs
          · exact hz
        rw [if_neg (by omega), ha hrs]
        simp [add_none, hzs]
      · intro hx
        exfalso
        unfold zp at hx
        cases mx <;> simp only at hx <;> split at hx <;> cases hx
      · exact RepRows.of_get fun i cs hi' => by
          rw [List.getElem?_take] at hi'
          split at hi'
          · rw [List.getElem?_drop] at hi'
            have := hR.get hi'
            rwa [Nat.add_mul, ← Nat.add_assoc] at this
          · simp at hi'
    · simp at hv
  · rename_i b ep off len
    split at hv
    · rename_i hc
      obtain ⟨h1, h2⟩ := hc
      split at hv
      · rename_i ty z e' rs eq
        split at hv
        · rename_i hc
          obtain ⟨rfl, rfl⟩ := hc
          simp only [RepV] at hx
          obtain ⟨hb, a, cap, rfl, hLx⟩ := hx
          obtain ⟨hpos, L, rs', hL, hLe, hLs, hcp, hw, hsz, hB⟩ := R.row _ _ _ _ _ eq
          obtain ⟨hk1, hk2⟩ := hLx L hL
          obtain ⟨hlc, hoc, haa⟩ := hk2 hLe.symm
          split at hv
          · injection hv with hv
            simp only [Prod.mk.injEq] at hv
            obtain ⟨rfl, rfl⟩ := hv
            have hrm : rmx = none := hmx.1 rfl
            subst hrm
            refine ⟨_, G, slice_run_raw ht hs hl (hh _) (.inl ⟨rfl, rfl⟩) (fun _ => rfl) h1 (by omega) (Nat.le_refl _), Ext.refl G, R, ?_⟩
            simp only [RepV]
            refine ⟨hb, if cap = l then a else a.add (l * z), cap - l, ?_, ?_⟩
            · split <;> rfl
            · intro L' hL'
              rw [hL] at hL'
              injection hL' with hL'
              subst hL'
              refine ⟨hk1, fun _ => ⟨by omega, by omega, fun hc => ?_⟩⟩
              rw [if_neg (by omega), haa (by omega), add_none, hLs, Nat.add_mul]
          · rename_i m
            split at hv
            · rename_i hc
              obtain ⟨rfl, rfl, rfl, hlen⟩ := hc
              injection hv with hv
              simp only [Prod.mk.injEq] at hv
              obtain ⟨rfl, rfl⟩ := hv
              have hhi : hi ≠ none := fun e => by have := hn' e; simp at this
              obtain ⟨E, rfl⟩ := Option.ne_none_iff_exists'.1 hhi
              simp only [Option.getD_some] at h1 h2 hm hh ⊢
              have hstep : Rel (G.setRow b { L with e := e' + 1, vis := E }) (h.set b (.row ty z (e' + 1) (rs.take E))) w := by
                refine R.setRowAt (L' := { L with e := e' + 1, vis := E }) eq hL (by simp; omega) (by simp; omega) rfl hLs (by simp; omega) (.inl rfl) (Nat.le_refl _) (fun _ _ _ => rfl) hw (by simpa using hsz) ?_
                intro i cs hi'
                rw [List.getElem?_take] at hi'
                split at hi'
                · exact hB i cs hi'
                · simp at hi'
              refine ⟨_, _, slice_run_raw ht hs hl (hh _) (hm _) hn h1 (Nat.le_refl _) (by omega), Ext.setRow G b L _ hL (by simp; omega) (by simp; omega), hstep, ?_⟩
              simp only [RepV]
              refine ⟨hb, a, E, ?_, ?_⟩
              · simp [Addr.add]
              · intro L' hL'
                simp only [Tie.setRow, if_true, Option.some.injEq] at hL'
                subst hL'
                refine ⟨Nat.le_refl _, fun _ => ⟨Nat.le_refl _, by simp; omega, fun hc => ?_⟩⟩
                have := haa (by omega)
                simpa using this
            · split at hv
              · rename_i hc
                injection hv with hv
                simp only [Prod.mk.injEq] at hv
                obtain ⟨rfl, rfl⟩ := hv
                refine ⟨_, G, slice_run_raw ht hs hl (hh _) (hm _) hn h1 hc.1 (show m ≤ cap by omega), Ext.refl G, R, by simp [RepV]⟩
              · simp at hv
        · simp at hv
      · simp at hv
    · rename_i hno
      simp only [Option.map_eq_some_iff, Prod.mk.injEq] at hv
      obtain ⟨v', hv, rfl, rfl⟩ := hv
      unfold farV at hv
      split at hv
      · rename_i z rs eq
        split at hv
        · rename_i hc
          obtain ⟨rfl, h1, h2, hmxn⟩ := hc
          injection hv with hv
          subst hv
          have hmxn : mx = none := by simpa using hmxn
          subst hmxn
          have hrm : rmx = none := hmx.1 rfl
          subst hrm
          simp only [RepV] at hx
          obtain ⟨hb, a, cap, rfl, hLx⟩ := hx
          obtain ⟨ty, _, hpos, L, rs', hL, hLe, hLs, hcp, hw, hsz, hB⟩ := R.rowAt eq
          obtain ⟨hk1, hk2⟩ := hLx L hL
          obtain ⟨hlc, hoc, haa⟩ := hk2 hLe.symm
          refine ⟨_, G, slice_run_raw ht hs hl (hh _) (.inl ⟨rfl, rfl⟩) (fun _ => rfl) h1 (by omega) (Nat.le_refl _), Ext.refl G, R, ?_⟩
          simp only [RepV]
          refine ⟨hb, if cap = l then a else a.add (l * z), cap - l, ?_, ?_⟩
          · split <;> rfl
          · intro L' hL'
            rw [hL] at hL'
            injection hL' with hL'
            subst hL'
            refine ⟨hk1, fun _ => ⟨by omega, by omega, fun hc => ?_⟩⟩
            rw [if_neg (by omega), haa (by omega), add_none, hLs, Nat.add_mul]
        · simp at hv
      · simp at hv
  · rename_i n c
    split at hv
    · rename_i hc
      obtain ⟨rfl, rfl, rfl, h2, h3⟩ := hc
      injection hv with hv
      simp only [Prod.mk.injEq] at hv
      obtain ⟨rfl, rfl⟩ := hv
      obtain rfl := hx.sc_inv
      refine ⟨_, G, slice_run_raw ht hs hl (hh 0) (hm 0) hn (by omega) (by omega) (by omega), Ext.refl G, R, ?_⟩
      simp only [h2, h3]
      simp [RepV, Value.oneCell']
    · simp at hv
  · simp at hv
end
end
section
section
variable {P : Program} {G : Tie} {w : World}
def RepFlat (G : Tie) (sz : Nat) (rows : List (List V)) (rs : List Value) : Prop :=
  rs.length = rows.length * sz ∧ ∀ i cs, rows[i]? = some cs → cs.length = sz ∧ ∀ j c, cs[j]? = some c → ∃ v, rs[i * sz + j]? = some v ∧ RepV G c v
theorem divmod_row {sz n k : Nat} (h : k < n * sz) : ∃ i j, i < n ∧ j < sz ∧ k = i * sz + j := by
  have hs : 0 < sz := by
    rcases Nat.eq_zero_or_pos sz with e | e
    · subst e; simp at h
    · exact e
  refine ⟨k / sz, k % sz, ?_, Nat.mod_lt _ hs, ?_⟩
  · exact (Nat.div_lt_iff_lt_mul hs).2 h
  · have := Nat.div_add_mod k sz
    rw [Nat.mul_comm] at this
    exact this.symm
theorem row_index_inj {sz i j i' j' : Nat} (hj : j < sz) (hj' : j' < sz) (h : i * sz + j = i' * sz + j') : i = i' ∧ j = j' := by
  have hs : 0 < sz := by omega
  have h1 : (i * sz + j) / sz = i := by rw [Nat.mul_comm, Nat.mul_add_div hs, Nat.div_eq_of_lt hj]; rfl
  have h2 : (i' * sz + j') / sz = i' := by rw [Nat.mul_comm, Nat.mul_add_div hs, Nat.div_eq_of_lt hj']; rfl
  have : i = i' := by rw [← h1, h, h2]
  subst this
  exact ⟨rfl, by omega⟩
theorem RepFlat.append {sz : Nat} {xs ys : List (List V)} {rs ss : List Value} (h : RepFlat G sz xs rs) (k : RepFlat G sz ys ss) : RepFlat G sz (xs ++ ys) (rs ++ ss) := by
  refine ⟨by simp [h.1, k.1, Nat.add_mul], fun i cs hi => ?_⟩
  by_cases hl : i < xs.length
  · rw [List.getElem?_append_left hl] at hi
    obtain ⟨h1, h2⟩ := h.2 i cs hi
    refine ⟨h1, fun j c hj => ?_⟩
    obtain ⟨v, h3, h4⟩ := h2 j c hj
    exact ⟨v, by rw [List.getElem?_append_left (List.getElem?_eq_some_iff.1 h3).1]; exact h3, h4⟩
  · rw [List.getElem?_append_right (by omega)] at hi
    obtain ⟨h1, h2⟩ := k.2 _ cs hi
    refine ⟨h1, fun j c hj => ?_⟩
    obtain ⟨v, h3, h4⟩ := h2 j c hj
    have hge : xs.length * sz ≤ i * sz := Nat.mul_le_mul_right _ (by omega)
    have hsub : (i - xs.length) * sz = i * sz - xs.length * sz := Nat.sub_mul _ _ _
    refine ⟨v, ?_, h4⟩
    rw [List.getElem?_append_right (by rw [h.1]; omega), h.1, show i * sz + j - xs.length * sz = (i - xs.length) * sz + j by omega]
    exact h3
theorem RepFlat.blk {sz : Nat} {xs : List (List V)} {rs : List Value} {rest : List Value} (h : RepFlat G sz xs rs) (h1 : ∀ r ∈ xs, r.all zm = true) : RepBlk G sz (rs ++ rest).toArray xs := by
  intro i cs hi
  obtain ⟨h2, h3⟩ := h.2 i cs hi
  refine ⟨h2, h1 cs (List.mem_of_getElem? hi), fun j c hj => ?_⟩
  obtain ⟨v, h4, h5⟩ := h3 j c hj
  exact ⟨v, by rw [List.getElem?_toArray, List.getElem?_append_left (List.getElem?_eq_some_iff.1 h4).1]; exact h4, h5⟩
theorem RepFlat.ext {G G' : Tie} (x : Ext G G') {sz : Nat} {xs : List (List V)} {rs : List Value} (h : RepFlat G sz xs rs) : RepFlat G' sz xs rs :=
  ⟨h.1, fun i cs hi => ⟨(h.2 i cs hi).1, fun j c hj => let ⟨v, a, b⟩ := (h.2 i cs hi).2 j c hj; ⟨v, a, b.ext x⟩⟩⟩
theorem RepFlat.one {sz : Nat} {xs : List (List V)} {rs : List Value} (h : RepFlat G sz xs rs) (h1 : ∀ r ∈ xs, r.all zm = true) : ∀ v ∈ rs, v.oneCell' = true := by
  intro v hv
  obtain ⟨k, hk⟩ := List.getElem?_of_mem hv
  have hlt := (List.getElem?_eq_some_iff.1 hk).1
  rw [h.1] at hlt
  obtain ⟨i, j, hi, hj, rfl⟩ := divmod_row hlt
  have hcs : xs[i]? = some xs[i] := List.getElem?_eq_getElem hi
  obtain ⟨h2, h3⟩ := h.2 i _ hcs
  have hc : xs[i][j]? = some (xs[i][j]'(by omega)) := List.getElem?_eq_getElem (by omega)
  obtain ⟨u, h4, h5⟩ := h3 j _ hc
  rw [hk] at h4
  injection h4 with h4
  subst h4
  apply h5.one
  have := h1 _ (List.mem_of_getElem? hcs)
  rw [List.all_eq_true] at this
  exact this _ (List.mem_of_getElem? hc)
theorem flat_of_cells {sz b o : Nat} {rows : List (List V)} (h : ∀ i cs, rows[i]? = some cs → cs.length = sz ∧ ∀ j c, cs[j]? = some c → ∃ v, w.cell? ⟨b, o + (i * sz + j), none⟩ = some v ∧ RepV G c v) :
    ∃ rs : List Value, RepFlat G sz rows rs ∧ ∀ j v, rs[j]? = some v → w.cell? ⟨b, o + j, none⟩ = some v := by
  refine ⟨(List.range (rows.length * sz)).map fun k => (w.cell? ⟨b, o + k, none⟩).getD undef, ⟨by simp, fun i cs hi => ?_⟩, fun k v hk => ?_⟩
  · obtain ⟨h1, h2⟩ := h i cs hi
    refine ⟨h1, fun j c hj => ?_⟩
    obtain ⟨v, h3, h4⟩ := h2 j c hj
    have hi' := (List.getElem?_eq_some_iff.1 hi).1
    have hj' := (List.getElem?_eq_some_iff.1 hj).1
    have : i * sz + j < rows.length * sz := by
      have : (i + 1) * sz ≤ rows.length * sz := Nat.mul_le_mul_right _ (by omega)
      rw [Nat.add_mul] at this
      omega
    exact ⟨v, by simp [this, h3], h4⟩
  · have hlt : k < rows.length * sz := by
      have := (List.getElem?_eq_some_iff.1 hk).1
      simpa using this
    obtain ⟨i, j, hi, hj, rfl⟩ := divmod_row hlt
    have hcs : rows[i]? = some rows[i] := List.getElem?_eq_getElem hi
    obtain ⟨h2, h3⟩ := h i _ hcs
    have hc : rows[i][j]? = some (rows[i][j]'(by omega)) := List.getElem?_eq_getElem (by omega)
    obtain ⟨u, h4, h5⟩ := h3 j _ hc
    simp [hlt, h4] at hk
    subst hk
    exact h4
theorem elems_run {h : Heap} (R : Rel G h w) {sz : Nat} {x : V} {rx : Value} {rows : List (List V)} (hx : RepV G x rx) (he : elems sz h x = some rows) :
    ∃ a cap rs, rx = .slice a rows.length cap ∧ rows.length ≤ cap ∧ RepFlat G sz rows rs ∧ (rows ≠ [] → ∃ b o, a = some ⟨b, o, none⟩ ∧ ∀ j v, rs[j]? = some v → w.cell? ⟨b, o + j, none⟩ = some v) := by
  unfold elems at he
  split at he
  · rename_i ex z rs
    split at he
    · rename_i hz
      injection he with he; subst he
      simp only [RepV] at hx
      obtain ⟨a, cap, rfl, hl, hex, hg, b, o, ha, _, hR⟩ := hx
      by_cases hne : rs = []
      · subst hne
        exact ⟨a, cap, [], rfl, hl, ⟨by simp, by simp⟩, by simp⟩
      · have hzs : z = sz := by
          simp only [Bool.or_eq_true, beq_iff_eq] at hz
          rcases hz with hz | hz
          · exact absurd (List.isEmpty_iff.1 hz) hne
          · exact hz
        subst hzs
        obtain ⟨vs, h1, h2⟩ := flat_of_cells (G := G) (w := w) (sz := z) (b := b) (o := o) (rows := rs) (fun i cs hi => by
          obtain ⟨h3, h4⟩ := hR.get hi
          refine ⟨h3, fun j c hj => ?_⟩
          obtain ⟨v, h5, h6⟩ := h4.get hj
          exact ⟨v, by rw [← Nat.add_assoc]; exact R.fz _ _ _ h5, h6⟩)
        exact ⟨a, cap, vs, rfl, hl, h1, fun _ => ⟨b, o, ha hne, h2⟩⟩
    · simp at he
  · rename_i b e off len
    split at he
    · rename_i z rs hr
      split at he
      · rename_i hc
        obtain ⟨rfl, hol⟩ := hc
        injection he with he; subst he
        obtain ⟨ty, eq, hpos, L, rs', hL, hLe, hLs, hcp, hw, hsz, hB⟩ := R.rowAt hr
        simp only [RepV] at hx
        obtain ⟨hb, a, cap, rfl, hLx⟩ := hx
        obtain ⟨hlc, hoc, haa⟩ := (hLx L hL).2 hLe.symm
        have hlen : ((rs.drop off).take len).length = len := by simp; omega
        obtain ⟨vs, h1, h2⟩ := flat_of_cells (G := G) (w := w) (sz := z) (b := L.blk) (o := off * z) (rows := (rs.drop off).take len) (fun i cs hi => by
          rw [List.getElem?_take] at hi
          split at hi
          · rw [List.getElem?_drop] at hi
            obtain ⟨h3, _, h4⟩ := hB _ _ hi
            refine ⟨h3, fun j c hj => ?_⟩
            obtain ⟨v, h5, h6⟩ := h4 j c hj
            refine ⟨v, ?_, h6⟩
            rw [cell_of_heap hw, ← h5, Nat.add_mul]
            congr 1
            omega
          · simp at hi)
        refine ⟨some a, cap, vs, by rw [hlen], by rw [hlen]; exact hlc, h1, fun hne => ⟨L.blk, off * z, ?_, h2⟩⟩
        have : 0 < len := by
          rcases Nat.eq_zero_or_pos len with e0 | e0
          · subst e0; simp at hne
          · exact e0
        rw [haa (by omega), hLs]
      · simp at he
    · simp at he
  · injection he with he; subst he
    obtain rfl := hx.sc_inv
    exact ⟨none, 0, [], rfl, Nat.le_refl _, ⟨by simp, by simp⟩, by simp⟩
  · simp at he
theorem bytesOut_flat (G : Tie) (s : ByteArray) : RepFlat G 1 (bytesOut s) (s.data.toList.map fun c => Value.int .u8 c.toNat) := by
  refine ⟨by simp [bytesOut], fun i cs hi => ?_⟩
  simp only [bytesOut, List.getElem?_map, Option.map_eq_some_iff] at hi
  obtain ⟨c, hc, rfl⟩ := hi
  refine ⟨rfl, fun j d hj => ?_⟩
  cases j with
  | succ j => simp at hj
  | zero =>
    simp only [List.getElem?_cons_zero, Option.some.injEq] at hj
    subst hj
    exact ⟨_, by simp [hc], RepV.int _ _ _⟩
theorem src_run {h : Heap} (R : Rel G h w) {sz : Nat} {x : V} {rx : Value} {new : List (List V)} (hx : RepV G x rx) (he : srcRows sz h x = some new) :
    ∃ news, RepFlat G sz new news ∧ (∀ w2, (Builtin.lenOf rx).run P w2 = .ok new.length w2) ∧
      (∀ w2 n, w2.heap = w.heap → n ≤ new.length → (Builtin.firstCells sz n rx).run P w2 = .ok (news.take (n * sz)).toArray w2) := by
  unfold srcRows at he
  split at he
  · rename_i s
    split at he
    · rename_i hz
      subst hz
      injection he with he; subst he
      obtain rfl := hx.sc_inv
      refine ⟨_, bytesOut_flat G s, fun w2 => ?_, fun w2 n hw hn => ?_⟩
      · simp [Builtin.lenOf, bytesOut]
      · simp only [Builtin.firstCells, Sem.run_pure, Nat.mul_one]
        congr 1
        apply Array.ext'
        simp only [Array.toList_map, ← List.map_take]
        congr 1
        show ((s.extract 0 n).data).toList = _
        simp [ByteArray.extract, ByteArray.copySlice]
    · simp at he
  · obtain ⟨a, cap, rs, rfl, _, h1, h2⟩ := elems_run R hx he
    refine ⟨rs, h1, fun w2 => by simp [Builtin.lenOf], fun w2 n hw hn => ?_⟩
    by_cases hne : new = []
    · subst hne
      have hn0 : n = 0 := by simpa using hn
      subst hn0
      cases a <;> simp [Builtin.firstCells, loadCells, loadCellsFrom]
    · obtain ⟨b, o, rfl, h3⟩ := h2 hne
      have hl : (rs.take (n * sz)).length = n * sz := by
        rw [List.length_take, h1.1, Nat.min_eq_left (Nat.mul_le_mul_right sz hn)]
      have := run_loadCells_list (P := P) w2 ⟨b, o, none⟩ (rs.take (n * sz)) (fun j v hj => by
        rw [add_none]
        have hj' : rs[j]? = some v := by
          rw [List.getElem?_take] at hj
          split at hj
          · exact hj
          · simp at hj
        have := h3 j v hj'
        unfold World.cell? at this ⊢
        rwa [hw])
      rw [hl] at this
      simpa [Builtin.firstCells] using this
theorem growElem_inv {e : TypeId} {sz : Nat} (h : growElem P e = some sz) : ∃ i z, P.info? e = some i ∧ i.zero = some z ∧ i.size = sz ∧ 0 < sz ∧ i.bytes ≤ 1024 ∧ z.cells.size = sz := by
  simp only [growElem, Option.bind_eq_some_iff] at h
  obtain ⟨i, hi, z, hz, h⟩ := h
  split at h
  · rename_i hc
    injection h with h; subst h
    exact ⟨i, z, hi, hz, rfl, hc.1, hc.2.1, hc.2.2⟩
  · simp at h
theorem append_room_raw {t u ty e : TypeId} {i : TypeInfo} {a : Option Addr} {sLen cap n : Nat} {rx : Value} {news : List Value} {w' : World} (ht : P.underlying t = some (.slice e))
    (hu : P.underlying u = some .string ∨ ∃ e', P.underlying u = some (.slice e'))
    (hi : P.info? e = some i) (hl : (Builtin.lenOf rx).run P w = .ok n w) (hf : (Builtin.firstCells i.size n rx).run P w = .ok news.toArray w) (hroom : sLen + n ≤ cap)
    (hst : ∀ b, a = some b → (storeCells (b.add (sLen * i.size)) news).run P w = .ok () w') (hno : a = none → w' = w) :
    (Builtin.append_ #[t, u] ty #[.slice a sLen cap, rx]).run P w = .ok (.slice a (sLen + n) cap) w' := by
  rcases hu with hu | ⟨e', hu⟩
  · cases a with
    | none =>
      have := hno rfl
      subst this
      simp [Builtin.append_, run_underlying ht, run_underlying hu, sizeOf, typeInfo, hi, hl, hroom, hf]
    | some b =>
      have := hst b rfl
      simp [Builtin.append_, run_underlying ht, run_underlying hu, sizeOf, typeInfo, hi, hl, hroom, hf, this]
  · cases a with
    | none =>
      have := hno rfl
      subst this
      simp [Builtin.append_, run_underlying ht, run_underlying hu, sizeOf, typeInfo, hi, hl, hroom, hf]
    | some b =>
      have := hst b rfl
      simp [Builtin.append_, run_underlying ht, run_underlying hu, sizeOf, typeInfo, hi, hl, hroom, hf, this]
theorem append_grow_raw {t u ty e : TypeId} {i : TypeInfo} {z : Value} {a : Option Addr} {sLen cap n : Nat} {rx : Value} {olds news : List Value} (ht : P.underlying t = some (.slice e))
    (hu : P.underlying u = some .string ∨ ∃ e', P.underlying u = some (.slice e'))
    (hi : P.info? e = some i) (hz : i.zero = some z) (hl : (Builtin.lenOf rx).run P w = .ok n w) (hf : (Builtin.firstCells i.size n rx).run P w.drew = .ok news.toArray w.drew)
    (hfo : (Builtin.firstCells i.size sLen (.slice a sLen cap)).run P w.drew = .ok olds.toArray w.drew) (hroom : cap < sLen + n) (hb : i.bytes ≤ 1024) (hlim : sLen + n ≤ lim) :
    (Builtin.append_ #[t, u] ty #[.slice a sLen cap, rx]).run P w = .ok (.slice (some ⟨w.heap.size, 0, none⟩) (sLen + n) (grownCap w (sLen + n) cap e))
      (w.drew.alloc (.cells (olds ++ news ++ (Builtin.zeroCells z.cells (grownCap w (sLen + n) cap e - (sLen + n))).toList).toArray e (0, 0))) := by
  unfold lim at hlim
  have hn : ¬ (sLen + n ≤ cap) := by omega
  have h63' : ¬ (9223372036854775807 < ((sLen : Int) + (n : Int))) := by omega
  have hby : (sLen + n) * i.bytes ≤ 140737488355328 := by
    have h1 : (sLen + n) * i.bytes ≤ (sLen + n) * 1024 := Nat.mul_le_mul_left _ hb
    omega
  have hfit := growslice_fits (bytes := i.bytes) (show cap < sLen + n by omega) hby
  have h48' : ¬ (281474976710656 < Builtin.nextslicecap (sLen + n) cap * i.bytes) := by omega
  rcases hu with hu | ⟨e', hu⟩
  · simp [Builtin.append_, run_underlying ht, run_underlying hu, sizeOf, typeInfo, zeroValue, hi, hz, hl, hn, h63', h48', Question.forced, newRow, hf, hfo, grownCap]
    congr 2
    apply Array.ext'
    simp
  · simp [Builtin.append_, run_underlying ht, run_underlying hu, sizeOf, typeInfo, zeroValue, hi, hz, hl, hn, h63', h48', Question.forced, newRow, hf, hfo, grownCap]
    congr 2
    apply Array.ext'
    simp
end
end
end Go.Am
