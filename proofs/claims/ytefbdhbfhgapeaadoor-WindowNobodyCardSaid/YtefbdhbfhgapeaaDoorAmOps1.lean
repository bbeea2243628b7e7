/- Am: operations that leave memory as it is. -/
import Derived.Test.YtefbdhbfhgapeaaDoorAmStore
namespace Go.Am

theorem RepV.sc_inv {G : Tie} {v : Value} {r : Value} (h : RepV G (.sc v) r) : r = v := by simp only [RepV] at h; exact h.1

theorem RepV.int (G : Tie) (k : IntKind) (n : Int) : RepV G (.sc (.int k n)) (.int k n) := by simp [RepV, Value.oneCell']
theorem RepV.bool (G : Tie) (b : Bool) : RepV G (.sc (.bool b)) (.bool b) := by simp [RepV, Value.oneCell']
theorem RepV.str (G : Tie) (s : ByteArray) : RepV G (.sc (.string s)) (.string s) := by simp [RepV, Value.oneCell']

section
variable {P : Program} {gl : Nat → Option (List V)} {G : Tie} {en : Env} {a : Act} {w : World}

def GlobOk (G : Tie) (gl : Nat → Option (List V)) : Prop := ∀ g cs, gl g = some cs → RepV G (.eptr cs 0) (.pointer (some ⟨g, 0, none⟩))

theorem GlobOk.ext {G G' : Tie} {gl : Nat → Option (List V)} (x : Ext G G') (h : GlobOk G gl) : GlobOk G' gl := fun g cs e => (h g cs e).ext x

theorem scOf_rep {v : Value} {x : V} (h : scOf v = some x) : RepV G x v := by
  unfold scOf at h
  split at h <;> first | (simp at h; done) | (injection h with h; subst h; simp [RepV, Value.oneCell'])

theorem scOf_sc {v : Value} {x : V} (h : scOf v = some x) : x = .sc v := by
  unfold scOf at h
  split at h <;> first | (simp at h; done) | (injection h with h; exact h.symm)

theorem scsOf_rep : ∀ {l : List Value} {xs : List V}, scsOf l = some xs → RepL G xs l
  | [], xs, h => by simp [scsOf] at h; subst h; simp [RepL]
  | v :: r, xs, h => by
    simp only [scsOf, Option.bind_eq_some_iff, Option.map_eq_some_iff] at h
    obtain ⟨x, hx, ys, hy, rfl⟩ := h
    simp only [RepL]
    exact ⟨v, r, rfl, scOf_rep hx, scsOf_rep hy⟩

theorem scsOf_one : ∀ {l : List Value} {xs : List V}, scsOf l = some xs → xs.all oneCell = true ∧ xs.all ground = true
  | [], xs, h => by simp [scsOf] at h; subst h; simp
  | v :: r, xs, h => by
    simp only [scsOf, Option.bind_eq_some_iff, Option.map_eq_some_iff] at h
    obtain ⟨x, hx, ys, hy, rfl⟩ := h
    have := scsOf_one hy
    rw [scOf_sc hx]
    simp only [List.all_cons, oneCell, ground, Bool.true_and]
    exact this

theorem valOf_rep {v : Value} {x : V} (h : valOf v = some x) : RepV G x v := by
  unfold valOf at h
  split at h
  · simp only [Option.map_eq_some_iff] at h
    obtain ⟨xs, hx, rfl⟩ := h
    simp only [RepV]
    exact ⟨_, rfl, scsOf_rep hx⟩
  · exact scOf_rep h

theorem opd_rep (hgl : GlobOk G gl) (he : RepEnv G en a.tmps) {x : Operand} {y : Opd} (h : opd gl x = some y) : RepV G (y.get en) (a.eval x) := by
  cases x <;> simp only [opd] at h
  · injection h with h; subst h; exact he _
  · simp only [Option.map_eq_some_iff] at h
    obtain ⟨v, hv, rfl⟩ := h
    exact valOf_rep hv
  · simp only [Option.map_eq_some_iff] at h
    obtain ⟨cs, hv, rfl⟩ := h
    exact hgl _ _ hv
  · injection h with h; subst h; simp [Opd.get, Act.eval, RepV, RepL]

theorem opds_rep (hgl : GlobOk G gl) (he : RepEnv G en a.tmps) : ∀ {xs : List Operand} {ys : List Opd}, opds gl xs = some ys → RepL G (getsO en ys) (xs.map a.eval)
  | [], ys, h => by simp [opds] at h; subst h; simp [getsO, RepL]
  | x :: xs, ys, h => by
    simp only [opds, Option.bind_eq_some_iff, Option.map_eq_some_iff] at h
    obtain ⟨y, hy, zs, hz, rfl⟩ := h
    simp only [getsO, List.map_cons, RepL]
    exact ⟨_, _, rfl, opd_rep hgl he hy, opds_rep hgl he hz⟩

theorem bin_run {op : BinOp} {t : TypeId} {x y v : V} {rx ry : Value} {ox oy : Operand} (hx : RepV G x rx) (hy : RepV G y ry) (h : bin op x y = some v) :
    ∃ r, (do eqGuard op t ox oy rx ry; binOp op t rx ry : Sem Value).run P w = .ok r w ∧ RepV G v r := by
  unfold bin at h
  split at h
  · rename_i k m j n
    obtain rfl := hx.sc_inv
    obtain rfl := hy.sc_inv
    have hg : (eqGuard op t ox oy (.int k m) (.int j n)).run P w = .ok () w := by
      unfold eqGuard
      cases op <;> rfl
    simp only [Sem.run_bind, hg, Result.andThen_ok]
    split at h
    · split at h
      · simp at h
      · rename_i hn
        injection h with h; subst h
        exact ⟨_, by simp only [binOp, Op.shift, if_neg hn]; rfl, RepV.int _ _ _⟩
    · split at h
      · simp at h
      · rename_i hn
        injection h with h; subst h
        exact ⟨_, by simp only [binOp, Op.shift, if_neg hn]; rfl, RepV.int _ _ _⟩
    · rename_i h1 h2
      split at h
      · rename_i hk
        subst hk
        cases op <;> simp only [binInt] at h <;> simp only [binOp, ne_eq, not_true_eq_false, if_false, Op.intArith, Op.intDiv, Op.intBits, Op.intCmp]
        case shl => exact absurd rfl h1
        case shr => exact absurd rfl h2
        case quo => 
          split at h
          · simp at h
          · rename_i h0; injection h with h; subst h; rw [if_neg h0]; exact ⟨_, rfl, RepV.int _ _ _⟩
        case rem => 
          split at h
          · simp at h
          · rename_i h0; injection h with h; subst h; rw [if_neg h0]; exact ⟨_, rfl, RepV.int _ _ _⟩
        all_goals (injection h with h; subst h; exact ⟨_, rfl, by simp [RepV, Value.oneCell']⟩)
      · simp at h
  · rename_i p q
    obtain rfl := hx.sc_inv
    obtain rfl := hy.sc_inv
    have hg : (eqGuard op t ox oy (.string p) (.string q)).run P w = .ok () w := by
      unfold eqGuard
      cases op <;> rfl
    simp only [Sem.run_bind, hg, Result.andThen_ok]
    cases op <;> simp only [binStr] at h <;> simp only [binOp, Op.stringOp]
    case add =>
      split at h
      · rename_i hl
        injection h with h; subst h
        unfold lim at hl
        refine ⟨.string (p ++ q), ?_, RepV.str _ _⟩
        rw [if_neg]
        · rfl
        · show ¬ _ > IntKind.i64.max
          have : IntKind.i64.max = 9223372036854775807 := by decide
          rw [this]
          omega
      · simp at h
    all_goals first
      | (simp at h; done)
      | (injection h with h; subst h; exact ⟨_, rfl, by simp [RepV, Value.oneCell']⟩)
  · simp at h

theorem eqBool_run {neg : Bool} {t : TypeId} {p q : Bool} {ox oy : Operand} (ht : P.underlying t = some .bool) :
    (do eqGuard (if neg then .neq else .eql) t ox oy (.bool p) (.bool q); binOp (if neg then .neq else .eql) t (.bool p) (.bool q) : Sem Value).run P w = .ok (.bool (if neg then !(p == q) else (p == q))) w := by
  have hg : (eqGuard (if neg then .neq else .eql) t ox oy (.bool p) (.bool q)).run P w = .ok () w := by
    unfold eqGuard
    cases neg <;> rfl
  have key : ∀ d, (Op.equalIn (d + 1) t (.bool p) (.bool q)).run P w = .ok (p == q) w := by
    intro d
    simp only [Op.equalIn, Sem.run_bind, run_underlying ht w, Result.andThen_ok]
    rfl
  have key' : (Op.equal t (.bool p) (.bool q)).run P w = .ok (p == q) w := key 9999
  simp only [Sem.run_bind, hg, Result.andThen_ok]
  cases neg
  · simp only [Bool.false_eq_true, if_false]
    unfold binOp
    simp only [Sem.run_bind, key', Result.andThen_ok]
    rfl
  · simp only [if_true]
    unfold binOp
    simp only [Sem.run_bind, key', Result.andThen_ok]
    rfl

theorem un_run {op : UnOp} {x v : V} {rx : Value} (hx : RepV G x rx) (h : unary op x = some v) : ∃ r, (Op.unary op rx).run P w = .ok r w ∧ RepV G v r := by
  unfold unary at h
  split at h
  · obtain rfl := hx.sc_inv
    split at h
    · injection h with h; subst h; exact ⟨_, rfl, RepV.int _ _ _⟩
    · injection h with h; subst h; exact ⟨_, rfl, RepV.int _ _ _⟩
    · simp at h
  · obtain rfl := hx.sc_inv
    split at h
    · injection h with h; subst h; exact ⟨_, rfl, RepV.bool _ _⟩
    · simp at h
  · simp at h

/-- A part of a struct's or an array's value. -/
theorem part_run {t : TypeId} {n : Option Nat} (hn : shapeO P t = some n) {cs : List V} {off : Nat} {v : V} {rs : Array Value} (hc : RepL G cs rs.toList) (h : cutCells n cs off = some v) :
    ∃ r, (part t rs off).run P w = .ok r w ∧ RepV G v r := by
  have hs := shape_run hn w
  cases n with
  | none =>
    simp only [cutCells] at h
    obtain ⟨r, h1, h2⟩ := hc.get h
    rw [Array.getElem?_toList] at h1
    exact ⟨r, by simp [part, hs, h1], h2⟩
  | some k =>
    simp only [cutCells] at h
    split at h
    · rename_i hle
      injection h with h; subst h
      refine ⟨.agg (rs.extract off (off + k)), by simp [part, hs.1, hs.2], ?_⟩
      simp only [RepV]
      refine ⟨_, rfl, ?_⟩
      have : (rs.extract off (off + k)).toList = (rs.toList.drop off).take k := by
        simp [List.extract, Nat.add_sub_cancel_left]
      rw [this]
      exact (hc.drop off).take k
    · simp at h

theorem asNat_run {x : V} {n : Nat} {rx : Value} (hx : RepV G x rx) (h : asNat? x = some n) : ∃ k i, rx = .int k i ∧ 0 ≤ i ∧ i.toNat = n := by
  unfold asNat? at h
  split at h
  · rename_i k i
    obtain rfl := hx.sc_inv
    split at h
    · rename_i h0
      injection h with h
      exact ⟨k, i, rfl, h0, h⟩
    · simp at h
  · simp at h

theorem minmax_run (mx : Bool) (ts : Array TypeId) (ty : TypeId) : ∀ {xs : List V} {x v : V} {r : Value} {rs : List Value}, RepV G x r → RepL G xs rs → minmax mx x xs = some v →
    ∃ q, (rs.foldlM (if mx then Builtin.max2 else Builtin.min2) r : Sem Value).run P w = .ok q w ∧ RepV G v q
  | [], x, v, r, rs, hx, hs, h => by
    simp only [RepL] at hs
    subst hs
    simp only [minmax] at h
    injection h with h
    subst h
    exact ⟨r, rfl, hx⟩
  | y :: ys, x, v, r, rs, hx, hs, h => by
    simp only [RepL] at hs
    obtain ⟨q, rest, rfl, hy, hs⟩ := hs
    unfold minmax at h
    split at h
    · rename_i e; simp at e
    · rename_i e
      simp only [List.cons.injEq] at e
      obtain ⟨rfl, rfl⟩ := e
      obtain rfl := hx.sc_inv
      obtain rfl := hy.sc_inv
      split at h
      · rename_i hk
        subst hk
        obtain ⟨z, h1, h2⟩ := minmax_run mx ts ty (RepV.int G _ _) hs h
        refine ⟨z, ?_, h2⟩
        rw [List.foldlM_cons, Sem.run_bind]
        cases mx
        · simpa [Builtin.min2] using h1
        · simpa [Builtin.max2] using h1
      · simp at h
    · simp at h

end
end Go.Am
