/- Am: a call as a row sees it: its arguments and what is there at the start, as abstract values; what the row asks behind it. -/
import Derived.Test.YtefbdhbfhgapeaaDoorAmQuiet
import Derived.Deep.Slices
import Derived.ChangeSame
import Derived.Carry
import Derived.ProofKit
namespace Go.Am
open Go.RowKit (Below)

/-- Where a call begins: all that is there stays as it is. -/
def start (W : World) : Tie := { fz := fun b o => W.cell? ⟨b, o, none⟩, n := 0, bx := fun _ => 0, rw := fun _ => none, b0 := W.heap.size }

theorem start_rel (W : World) : Rel (start W) [] W where
  n := rfl
  fz _ _ _ h := h
  box b t cs e := by simp at e
  row b t sz e rows eq := by simp at eq
  low b k h := by simp [Tie.real] at h
  inj b b' k h := by simp [Tie.real] at h
  hb0 := Nat.le_refl _

section
variable {H : Type} {enc : TypeId × Value → H} {P : Program} {W : World} {base : Nat} {spare : Nat → Bool} {held : Bool}

/-- Cells that stand for abstract ones, of a kind. -/
def Reads (W : World) (Good : List V → Prop) (n : Nat) (cs : List Value) : Prop := ∃ vs : List V, vs.length = n ∧ vs.all ground = true ∧ Good vs ∧ RepL (start W) vs cs

theorem cell_spot {a : Addr} {v : Value} (h : W.cell? a = some v) : a.spot = none := by
  unfold World.cell? at h
  split at h
  · split at h
    · simp at h
    · rename_i hs
      simpa using hs
  · simp at h

theorem add_of_none {a : Addr} (h : a.spot = none) (n : Nat) : a.add n = ⟨a.block, a.off + n, none⟩ := by
  obtain ⟨b, o, s⟩ := a
  simp only at h
  subst h
  exact add_none b o n

theorem repF_start {b : Nat} : ∀ {vs : List V} {o : Nat} {cs : List Value}, RepL (start W) vs cs → (∀ (j : Nat) c, cs[j]? = some c → W.cell? ⟨b, o + j, none⟩ = some c) → RepF (start W) b o vs
  | [], _, _, _, _ => by simp [RepF]
  | v :: vs, o, cs, h, hc => by
    simp only [RepL] at h
    obtain ⟨c, rest, rfl, h1, h2⟩ := h
    simp only [RepF]
    refine ⟨⟨c, by simpa [start] using hc 0 c rfl, h1⟩, repF_start h2 fun j d hj => ?_⟩
    have := hc (j + 1) d (by simpa using hj)
    rwa [show o + (j + 1) = o + 1 + j by omega] at this

theorem cells_inv {a : Addr} {n : Nat} {cs : List Value} (h : W.cells? base a n = some cs) : cs.length = n ∧ ∀ (j : Nat) c, cs[j]? = some c → W.cell? (a.add j) = some c := by
  unfold World.cells? at h
  split at h
  · have key : ∀ (l : List Nat) (cs : List Value), (l.mapM fun i => W.cell? (a.add i)) = some cs → cs.length = l.length ∧ ∀ (j i : Nat) c, l[j]? = some i → cs[j]? = some c → W.cell? (a.add i) = some c := by
      intro l
      induction l with
      | nil => intro cs h; simp at h; subst h; simp
      | cons i l ih =>
        intro cs h
        rw [List.mapM_cons] at h
        simp only [Option.bind_eq_bind, Option.bind_eq_some_iff, Option.pure_def, Option.some.injEq] at h
        obtain ⟨c, h1, r, h2, rfl⟩ := h
        obtain ⟨q1, q2⟩ := ih r h2
        refine ⟨by simp [q1], fun j i' c' hj hc => ?_⟩
        cases j with
        | zero => simp at hj hc; subst hj; subst hc; exact h1
        | succ j => exact q2 j i' c' (by simpa using hj) (by simpa using hc)
    obtain ⟨q1, q2⟩ := key _ _ h
    refine ⟨by simpa using q1, fun j c hj => ?_⟩
    have hlt : j < n := by
      have := (List.getElem?_eq_some_iff.1 hj).1
      simp at q1
      omega
    exact q2 j j c (by simp [hlt]) hj
  · simp at h

/-- A slice that is read whole. -/
theorem trod_slc {t e : TypeId} {fuel : Nat} {cs : List Value} {x : DataW H × List MemPlace} {Good : List V → Prop} (ht : P.underlying t = some (.slice e)) (h0 : 0 < P.cellsOf e)
    (hel : ∀ (n : Nat) (cs : List Value) (y : DataW H × List MemPlace), DataW.trod enc P W base spare held n e cs = some y → cs.length = P.cellsOf e → Reads W Good (P.cellsOf e) cs)
    (h : DataW.trod enc P W base spare held fuel t cs = some x) : ∃ rows : List (List V), RepL (start W) [.slc .any (P.cellsOf e) rows] cs ∧ rows.length ≤ Go.maxLen ∧ ∀ r ∈ rows, r.length = P.cellsOf e ∧ Good r := by
  rcases Go.Deep.open_slice ht h with ⟨rfl, _⟩ | ⟨a, len, cap, m, n, D, Pl, rfl, _, hl, hm, hmm, _, hi⟩
  · refine ⟨[], ?_, by simp, by simp⟩
    simp only [RepL, RepV]
    exact ⟨_, _, rfl, ⟨none, 0, rfl, by simp, by simp, by simp, 0, 0, by simp, by simp, by simp [RepRows]⟩, rfl⟩
  · have hlen : len ≤ m := by rw [hmm]; split <;> omega
    have hex : ∀ k, k ≤ len → ∃ rows : List (List V), rows.length = k ∧ (rows.all fun l => l.all ground) = true ∧ (∀ r ∈ rows, r.length = P.cellsOf e ∧ Good r) ∧
        (rows ≠ [] → a.spot = none) ∧ ∀ (i : Nat) r, rows[i]? = some r → RepF (start W) a.block (a.off + i * P.cellsOf e) r := by
      intro k
      induction k with
      | zero => intro _; exact ⟨[], rfl, by simp, by simp, by simp, by simp⟩
      | succ k ih =>
        intro hk
        obtain ⟨rows, q1, q2, q3, q4, q5⟩ := ih (by omega)
        obtain ⟨cs', h1, h2⟩ := hi k (by omega)
        obtain ⟨hcl, hcc⟩ := cells_inv h1
        obtain ⟨vs, v1, v2, v3, v4⟩ := hel n cs' _ h2 hcl
        have hsp : a.spot = none := by
          by_cases hne : rows = []
          · have hk0 : k = 0 := by rw [← q1, hne]; rfl
            subst hk0
            obtain ⟨c, hc⟩ : ∃ c, cs'[0]? = some c := ⟨cs'[0]'(by omega), List.getElem?_eq_getElem (by omega)⟩
            have := cell_spot (hcc 0 c hc)
            simpa [Addr.add] using this
          · exact q4 hne
        refine ⟨rows ++ [vs], by simp [q1], by simp [q2, v2], ?_, fun _ => hsp, ?_⟩
        · intro r hr
          rcases List.mem_append.1 hr with hr | hr
          · exact q3 r hr
          · simp at hr; subst hr; exact ⟨v1, v3⟩
        · intro i r hr
          rcases Nat.lt_or_ge i rows.length with hlt | hge
          · rw [List.getElem?_append_left hlt] at hr
            exact q5 i r hr
          · rw [List.getElem?_append_right hge] at hr
            have hik : i = k := by
              have := (List.getElem?_eq_some_iff.1 hr).1
              simp at this
              omega
            subst hik
            simp [q1] at hr
            subst hr
            refine repF_start v4 fun j c hj => ?_
            have := hcc j c hj
            rw [add_of_none hsp, add_of_none rfl] at this
            simpa using this
    obtain ⟨rows, q1, q2, q3, q4, q5⟩ := hex len (Nat.le_refl _)
    refine ⟨rows, ?_, by omega, q3⟩
    simp only [RepL, RepV]
    refine ⟨_, _, rfl, ⟨some a, cap, by rw [q1], by omega, by simp [Cp.isFull], q2, a.block, a.off, fun hne => ?_, fun e => by simp at e, ?_⟩, rfl⟩
    · obtain ⟨b, o, s⟩ := a
      have := q4 hne
      simp only at this
      subst this
      rfl
    · exact RepRows.of_get fun i r hr => ⟨(q3 r (List.mem_of_getElem? hr)).1, q5 i r hr⟩

theorem trod_intV {t : TypeId} {k : IntKind} {fuel : Nat} {cs : List Value} {x : DataW H × List MemPlace} (ht : P.underlying t = some (.int k)) (h : DataW.trod enc P W base spare held fuel t cs = some x) :
    ∃ n : Int, k.min ≤ n ∧ n ≤ k.max ∧ RepL (start W) [.sc (.int k n)] cs := by
  obtain ⟨n, rfl, _, hw⟩ := DataW.trod_int ht h
  simp only [Lit.wf, Bool.and_eq_true, decide_eq_true_eq] at hw
  exact ⟨n, hw.1, hw.2, by simp [RepL, RepV, Value.oneCell']⟩

theorem trod_strV {t : TypeId} {fuel : Nat} {cs : List Value} {x : DataW H × List MemPlace} (ht : P.underlying t = some .string) (h : DataW.trod enc P W base spare held fuel t cs = some x) :
    ∃ s : ByteArray, s.size ≤ Go.maxLen ∧ RepL (start W) [.sc (.string s)] cs := by
  obtain ⟨s, rfl, _, hw⟩ := DataW.trod_string ht h
  exact ⟨s, hw, by simp [RepL, RepV, Value.oneCell']⟩
end
end Go.Am
