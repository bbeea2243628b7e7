/- Am: package-level tables that a row lists. -/
import Derived.Test.YtefbdhbfhgapeaaDoorAmRow2
import Derived.FnData
namespace Go.Am
section
variable {P : Program} {W : World}

/-- A scalar of a listed datum. -/
def absLit {H : Type} : DataW H → Option V
  | .lit (.bool b) => some (.sc (.bool b))
  | .lit (.int k n) => some (.sc (.int k n))
  | .lit (.string l) => some (.sc (.string ⟨l.toArray⟩))
  | _ => none

def absLits {H : Type} : List (DataW H) → Option (List V)
  | [] => some []
  | d :: r => (absLit d).bind fun v => (absLits r).map (v :: ·)

/-- A table of scalars. -/
def absTab {H : Type} : DataW H → Option (List V)
  | .agg l => absLits l
  | _ => none

theorem absLits_get {H : Type} : ∀ {ds : List (DataW H)} {vs : List V}, absLits ds = some vs → vs.length = ds.length ∧ ∀ (i : Nat) d, ds[i]? = some d → ∃ v, vs[i]? = some v ∧ absLit d = some v
  | [], vs, h => by simp only [absLits, Option.some.injEq] at h; subst h; simp
  | d :: ds, vs, h => by
    simp only [absLits, Option.bind_eq_some_iff, Option.map_eq_some_iff] at h
    obtain ⟨v, h1, us, h2, rfl⟩ := h
    obtain ⟨q1, q2⟩ := absLits_get h2
    refine ⟨by simp [q1], fun i d' hi => ?_⟩
    cases i with
    | zero => simp at hi; subst hi; exact ⟨v, by simp, h1⟩
    | succ i => obtain ⟨u, h3, h4⟩ := q2 i d' (by simpa using hi); exact ⟨u, by simpa using h3, h4⟩

theorem lit_rep {H : Type} {enc : TypeId × Value → H} {base : Nat} {sp : Nat → Bool} {held : Bool} {fuel : Nat} {t : TypeId} {c : Value} {d : DataW H} {p : List MemPlace} {v : V} (h : DataW.trod enc P W base sp held fuel t [c] = some (d, p)) (hv : absLit d = some v) :
    ground v = true ∧ RepV (start W) v c := by
  have one : ∀ (l : Lit), d = .lit l → (∃ b, l = .bool b ∧ c = .bool b) ∨ (∃ k n, l = .int k n ∧ c = .int k n) ∨ (∃ s : ByteArray, l = .string s.data.toList ∧ c = .string s) ∨ (∀ v, absLit d ≠ some v) := by
    rintro l rfl
    cases fuel with
    | zero => simp [DataW.trod] at h
    | succ fuel =>
      unfold DataW.trod at h
      split at h
      all_goals try (exfalso; simp at h; done)
      · rename_i b _ e
        simp only [Option.some.injEq, Prod.mk.injEq, DataW.lit.injEq] at h
        simp only [List.cons.injEq, and_true] at e
        exact .inl ⟨b, h.1.symm, e⟩
      · rename_i k k' n _ e
        split at h
        · rename_i hc
          simp only [Option.some.injEq, Prod.mk.injEq, DataW.lit.injEq] at h
          simp only [List.cons.injEq, and_true] at e
          exact .inr (.inl ⟨_, n, h.1.symm, by rw [e, hc.1]⟩)
        · simp at h
      · split at h
        · simp only [Option.some.injEq, Prod.mk.injEq, DataW.lit.injEq] at h
          refine .inr (.inr (.inr fun v => ?_))
          rw [← h.1]
          simp [absLit]
        · simp at h
      · rename_i s _ e
        split at h
        · simp only [Option.some.injEq, Prod.mk.injEq, DataW.lit.injEq] at h
          simp only [List.cons.injEq, and_true] at e
          exact .inr (.inr (.inl ⟨s, h.1.symm, e⟩))
        · simp at h
      all_goals
        exfalso
        repeat' first
          | (simp at h; done)
          | split at h
          | (simp only [Option.bind_eq_some_iff, Option.map_eq_some_iff, Prod.mk.injEq] at h; obtain ⟨_, _, h⟩ := h)
          | skip
  unfold absLit at hv
  split at hv
  · rename_i b
    injection hv with hv
    subst hv
    rcases one _ rfl with ⟨b', h1, rfl⟩ | ⟨k, n, h1, _⟩ | ⟨s, h1, _⟩ | h1
    · injection h1 with h1; subst h1; simp [ground, RepV, Value.oneCell']
    · simp at h1
    · simp at h1
    · exact absurd rfl (h1 _)
  · rename_i k n
    injection hv with hv
    subst hv
    rcases one _ rfl with ⟨b', h1, _⟩ | ⟨k', n', h1, rfl⟩ | ⟨s, h1, _⟩ | h1
    · simp at h1
    · injection h1 with h1 h2; subst h1; subst h2; simp [ground, RepV, Value.oneCell']
    · simp at h1
    · exact absurd rfl (h1 _)
  · rename_i l
    injection hv with hv
    subst hv
    rcases one _ rfl with ⟨b', h1, _⟩ | ⟨k', n', h1, _⟩ | ⟨s, h1, rfl⟩ | h1
    · simp at h1
    · simp at h1
    · injection h1 with h1; subst h1; simp [ground, RepV, Value.oneCell']
    · exact absurd rfl (h1 _)
  · simp at hv

/-- A listed table of scalars. -/
theorem tab_rep {H : Type} {enc : TypeId × Value → H} {base : Nat} {sp : Nat → Bool} {held : Bool} {fuel : Nat} {t e : TypeId} {n : Nat} {cs : List Value} {d : DataW H} {p : List MemPlace} {vs : List V}
    (ht : P.underlying t = some (.array n e)) (hce : P.cellsOf e = 1) (hct : P.cellsOf t = n) (h : DataW.trod enc P W base sp held fuel t cs = some (d, p)) (hv : absTab d = some vs) :
    vs.all ground = true ∧ RepL (start W) vs cs := by
  obtain ⟨xs, m, rfl, hx, hl, hn, hel⟩ := DataW.trod_array ht h
  simp only [Prod.mk.injEq] at hx
  obtain ⟨rfl, _⟩ := hx
  simp only [absTab] at hv
  obtain ⟨q1, q2⟩ := absLits_get hv
  have key : ∀ i, i < n → ∃ v c, vs[i]? = some v ∧ cs[i]? = some c ∧ ground v = true ∧ RepV (start W) v c := by
    intro i hi
    have h1 := hel i hi
    rw [List.getElem?_eq_getElem (by omega)] at h1
    have hc : (cs.drop (i * P.cellsOf e)).take (P.cellsOf e) = [cs[i]'(by omega)] := by
      rw [hce, Nat.mul_one]
      have : i < cs.length := by omega
      rw [List.drop_eq_getElem_cons this]
      rfl
    rw [hc] at h1
    obtain ⟨v, h2, h3⟩ := q2 i (xs[i]'(by omega)).1 (by simp [List.getElem?_eq_getElem (show i < xs.length by omega)])
    obtain ⟨h4, h5⟩ := lit_rep h1 h3
    exact ⟨v, _, h2, List.getElem?_eq_getElem (by omega), h4, h5⟩
  have hvl : vs.length = n := by simp [q1, hn]
  have hcl : cs.length = n := by omega
  clear hel q2 hv h
  refine ⟨?_, ?_⟩
  · rw [List.all_eq_true]
    intro v hv
    obtain ⟨i, hi⟩ := List.getElem?_of_mem hv
    obtain ⟨v', c, h1, _, h3, _⟩ := key i (by have := (List.getElem?_eq_some_iff.1 hi).1; omega)
    rw [hi] at h1
    injection h1 with h1
    rw [h1]
    exact h3
  · clear q1 hn hl ht hct
    induction n generalizing vs cs with
    | zero =>
      have h1 : vs = [] := List.eq_nil_of_length_eq_zero hvl
      have h2 : cs = [] := List.eq_nil_of_length_eq_zero hcl
      rw [h1, h2]
      simp [RepL]
    | succ n ih =>
      match vs, cs, hvl, hcl with
      | v :: vs, c :: cs, hvl, hcl =>
        simp only [RepL]
        obtain ⟨v', c', h1, h2, _, h4⟩ := key 0 (by omega)
        simp at h1 h2
        subst h1; subst h2
        refine ⟨c, cs, rfl, h4, ih (fun i hi => ?_) (by simpa using hvl) (by simpa using hcl)⟩
        obtain ⟨v', c', h5, h6, h7, h8⟩ := key (i + 1) (by omega)
        exact ⟨v', c', by simpa using h5, by simpa using h6, h7, h8⟩

theorem laid_mem {laid : List (String × DataW Unit)} {name : String} {d : DataW Unit} : ∀ {ps : List MemPlace}, DataW.LaidVars P W laid ps → (name, d) ∈ laid →
    ∃ g t cs fuel p, P.globalNamed name = some g ∧ (P.globals[g]?).map (·.type) = some t ∧ W.var? P name = some cs ∧ DataW.trod (fun _ => ()) P W 0 (fun _ => true) false fuel t cs.toList = some (d, p) := by
  induction laid with
  | nil => intro ps _ h; simp at h
  | cons x r ih =>
    intro ps h hm
    obtain ⟨n, d'⟩ := x
    obtain ⟨g, t, cs, fuel, p, q, h1, h2, h3, h4, h5, _⟩ := h
    rcases List.mem_cons.1 hm with hm | hm
    · injection hm with e1 e2
      subst e1; subst e2
      exact ⟨g, t, cs, fuel, p, h1, h2, h3, h4⟩
    · exact ih h5 hm

/-- .. as an abstract global. -/
theorem glob_tab {laid : List (String × DataW Unit)} {name : String} {d : DataW Unit} {g : Nat} {t e : TypeId} {n : Nat} {vs : List V} (h : laidMet P laid W) (hm : (name, d) ∈ laid) (hg : P.globalNamed name = some g) (hty : (P.globals[g]?).map (·.type) = some t)
    (ht : P.underlying t = some (.array n e)) (hce : P.cellsOf e = 1) (hct : P.cellsOf t = n) (hv : absTab d = some vs) : RepV (start W) (.eptr vs 0) (.pointer (some ⟨g, 0, none⟩)) := by
  obtain ⟨ps, hl, _⟩ := h
  obtain ⟨g', t', cs, fuel, p, h1, h2, h3, h4⟩ := laid_mem hl hm
  obtain rfl := Option.some.inj (hg.symm.trans h1)
  obtain rfl := Option.some.inj (hty.symm.trans h2)
  obtain ⟨q1, q2⟩ := tab_rep ht hce hct h4 hv
  simp only [RepV]
  refine ⟨g, 0, rfl, q1, repF_start q2 fun j c hj => ?_⟩
  rw [World.var?_cell hg h3 (0 + j), Nat.zero_add, ← Array.getElem?_toList]
  exact hj
end
end Go.Am
