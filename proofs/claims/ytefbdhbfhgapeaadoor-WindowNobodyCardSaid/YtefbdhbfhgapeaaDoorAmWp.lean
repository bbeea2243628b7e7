/- Am: reasoning. Fuel is hidden. -/
import Derived.Test.YtefbdhbfhgapeaaDoorAmDraw
namespace Go.Am

/-! ### More fuel, the same answer -/

def CallLe (c d : CallF) : Prop := ∀ b f a h r, c b f a h = some r → d b f a h = some r

theorem evOper_mono {c d : CallF} (hc : CallLe c d) {base : Nat} {en : Env} {h : Heap} {o : AOper} {r : V × Heap} (hs : evOper c base en h o = some r) : evOper d base en h o = some r := by
  obtain ⟨ho, hs⟩ := evOper_inv hs
  refine evOper_of ho ?_
  unfold evOp at hs ⊢
  split at hs
  · split at hs
    · exact hc _ _ _ _ _ hs
    · simp at hs
  · exact hs

theorem evVal_mono {c d : CallF} (hc : CallLe c d) {base : Nat} {en : Env} {h : Heap} {o : AOper} {r : V × Heap} (hs : evVal c base o en h = some r) : evVal d base o en h = some r := by
  unfold evVal at hs ⊢
  split at hs
  · exact evOper_mono hc hs
  · rename_i g want hg
    cases hen : gOk (en g) want with
    | none => rw [hen] at hs; simp at hs
    | some t =>
      rw [hen] at hs
      cases t with
      | true => exact evOper_mono hc hs
      | false => exact hs

theorem evOps_mono {c d : CallF} (hc : CallLe c d) {base : Nat} : ∀ {ops : List AOper} {en : Env} {h : Heap} {r : Env × Heap}, evOps c base ops en h = some r → evOps d base ops en h = some r
  | [], _, _, _, hs => hs
  | o :: ops, en, h, r, hs => by
    rw [evOps_cons, Option.bind_eq_some_iff] at hs ⊢
    obtain ⟨p, h1, h2⟩ := hs
    exact ⟨p, evVal_mono hc h1, evOps_mono hc h2⟩

theorem iter_mono {f g : Env → Heap → Option (Ex × Env × Heap)} (hf : ∀ en h r, f en h = some r → g en h = some r) : ∀ {n m : Nat} {en : Env} {h : Heap} {r}, n ≤ m → iter f n en h = some r → iter g m en h = some r
  | 0, _, _, _, _, _, hs => by simp [iter] at hs
  | n + 1, 0, _, _, _, hnm, _ => by omega
  | n + 1, m + 1, en, h, r, hnm, hs => by
    unfold iter at hs ⊢
    split at hs
    · rename_i en1 h1 e1
      rw [hf _ _ _ e1]
      exact iter_mono hf (by omega) hs
    · rename_i hno
      rw [hf _ _ _ hs]
      split
      · rename_i e2
        injection e2 with e2
        subst e2
        exact absurd hs (hno _ _)
      · rfl

theorem evC_mono {c d : CallF} (hc : CallLe c d) {base n m : Nat} (hnm : n ≤ m) : ∀ {ac : ACode} {en : Env} {h : Heap} {r}, evC c base n ac en h = some r → evC d base m ac en h = some r
  | .skip, _, _, _, hs | .ret, _, _, _, hs | .exit _, _, _, _, hs | .fail, _, _, _, hs => by simp [evC] at hs ⊢ <;> exact hs
  | .seq a b, en, h, r, hs => by
    simp only [evC] at hs ⊢
    split at hs
    · rename_i en1 h1 e1
      rw [evC_mono hc hnm e1]
      exact evC_mono hc hnm hs
    · rename_i hno
      rw [evC_mono hc hnm hs]
      split
      · rename_i e2
        injection e2 with e2
        subst e2
        exact absurd hs (hno _ _)
      · rfl
  | .cond x a b, en, h, r, hs => by
    simp only [evC] at hs ⊢
    split at hs
    · split at hs
      · rename_i ht; rw [if_pos ht]; exact evC_mono hc hnm hs
      · rename_i ht; rw [if_neg ht]; exact evC_mono hc hnm hs
    · simp at hs
  | .region ops, en, h, r, hs => by
    simp only [evC] at hs ⊢
    split at hs
    · rename_i en1 h1 e1
      rw [evOps_mono hc e1]
      exact hs
    · simp at hs
  | .block id x, en, h, r, hs => by
    simp only [evC] at hs ⊢
    split at hs
    · rename_i i en1 h1 e1
      rw [evC_mono hc hnm e1]
      exact hs
    · rename_i hno
      rw [evC_mono hc hnm hs]
      split
      · rename_i e2
        injection e2 with e2
        subst e2
        exact absurd hs (hno _ _ _)
      · rfl
  | .loop x, en, h, r, hs => by
    simp only [evC] at hs ⊢
    exact iter_mono (fun _ _ _ e => evC_mono hc hnm e) hnm hs

mutual
theorem freezeV_mono {h : Heap} {base : Nat} : ∀ {n m : Nat} {v r : V}, n ≤ m → freezeV h base n v = some r → freezeV h base m v = some r
  | 0, _, _, _, _, hs => by simp [freezeV] at hs
  | n + 1, 0, _, _, hnm, _ => by omega
  | n + 1, m + 1, v, r, hnm, hs => by
    cases v
    case hsl b e off len =>
      simp only [freezeV] at hs ⊢
      split at hs
      · rename_i hb; rw [if_pos hb]; exact hs
      · rename_i hb
        rw [if_neg hb]
        split at hs
        · split at hs
          · rename_i hl
            rw [if_pos hl]
            split at hs
            · rename_i hg; rw [if_pos hg]; exact hs
            · rename_i hg
              rw [if_neg hg]
              simp only [Option.bind_eq_some_iff] at hs ⊢
              obtain ⟨x, h1, h2⟩ := hs
              exact ⟨x, freezeRows_mono (by omega) h1, h2⟩
          · simp at hs
        · simp at hs
    case agg cs =>
      simp only [freezeV, Option.map_eq_some_iff] at hs ⊢
      obtain ⟨x, h1, h2⟩ := hs
      exact ⟨x, freezeVs_mono (by omega) h1, h2⟩
    case tup cs =>
      simp only [freezeV, Option.map_eq_some_iff] at hs ⊢
      obtain ⟨x, h1, h2⟩ := hs
      exact ⟨x, freezeVs_mono (by omega) h1, h2⟩
    all_goals simpa only [freezeV] using hs
theorem freezeVs_mono {h : Heap} {base : Nat} : ∀ {n m : Nat} {v r : List V}, n ≤ m → freezeVs h base n v = some r → freezeVs h base m v = some r
  | 0, _, _, _, _, hs => by simp [freezeVs] at hs
  | n + 1, 0, _, _, hnm, _ => by omega
  | n + 1, m + 1, [], r, hnm, hs => by simpa only [freezeVs] using hs
  | n + 1, m + 1, v :: vs, r, hnm, hs => by
    simp only [freezeVs, Option.bind_eq_some_iff, Option.map_eq_some_iff] at hs ⊢
    obtain ⟨x, h1, y, h2, h3⟩ := hs
    exact ⟨x, freezeV_mono (by omega) h1, y, freezeVs_mono (by omega) h2, h3⟩
theorem freezeRows_mono {h : Heap} {base : Nat} : ∀ {n m : Nat} {v r : List (List V)}, n ≤ m → freezeRows h base n v = some r → freezeRows h base m v = some r
  | 0, _, _, _, _, hs => by simp [freezeRows] at hs
  | n + 1, 0, _, _, hnm, _ => by omega
  | n + 1, m + 1, [], r, hnm, hs => by simpa only [freezeRows] using hs
  | n + 1, m + 1, v :: vs, r, hnm, hs => by
    simp only [freezeRows, Option.bind_eq_some_iff, Option.map_eq_some_iff] at hs ⊢
    obtain ⟨x, h1, y, h2, h3⟩ := hs
    exact ⟨x, freezeVs_mono (by omega) h1, y, freezeRows_mono (by omega) h2, h3⟩
end

theorem evFunc_mono {c d : CallF} (hc : CallLe c d) {n m base : Nat} (hnm : n ≤ m) {A : AFunc} {args : List V} {h : Heap} {r : V × Heap} (hs : evFunc c n base A args h = some r) : evFunc d m base A args h = some r := by
  unfold evFunc at hs ⊢
  split at hs
  · rename_i hl
    rw [if_pos hl]
    simp only at hs ⊢
    split at hs
    · simp at hs
    · rename_i ex en h1 hno e1
      rw [evC_mono hc hnm e1]
      simp only
      cases ex with
      | exit id => exact absurd rfl (hno id)
      | normal =>
        simp only [Option.bind_eq_some_iff] at hs ⊢
        obtain ⟨x, h2, h3⟩ := hs
        refine ⟨x, h2, ?_⟩
        split at h3
        · rename_i hp
          simp only [if_pos hp, Option.map_eq_some_iff] at h3 ⊢
          obtain ⟨y, h4, h5⟩ := h3
          exact ⟨y, freezeV_mono hnm h4, h5⟩
        · rename_i hp
          rw [if_neg hp]
          exact h3
      | ret =>
        simp only [Option.bind_eq_some_iff] at hs ⊢
        obtain ⟨x, h2, h3⟩ := hs
        refine ⟨x, h2, ?_⟩
        split at h3
        · rename_i hp
          simp only [if_pos hp, Option.map_eq_some_iff] at h3 ⊢
          obtain ⟨y, h4, h5⟩ := h3
          exact ⟨y, freezeV_mono hnm h4, h5⟩
        · rename_i hp
          rw [if_neg hp]
          exact h3
    · simp at hs
  · simp at hs

section
variable {X : FuncId → Option (Nat → List V → Heap → Option (V × Heap))} {F : FuncId → Option AFunc}

theorem evCall_mono : ∀ {n m : Nat}, n ≤ m → CallLe (evCall X F n) (evCall X F m)
  | 0, _, _ => fun _ _ _ _ _ hs => by simp [evCall] at hs
  | n + 1, 0, hnm => by omega
  | n + 1, m + 1, hnm => fun b f a h r hs => by
    unfold evCall at hs ⊢
    split at hs
    · exact hs
    · split at hs
      · exact evFunc_mono (evCall_mono (by omega)) (by omega) hs
      · simp at hs
end

/-! ### What code comes to -/

/-- The functions of a program, as far as they are known. -/
structure Fns where
  X : FuncId → Option (Nat → List V → Heap → Option (V × Heap))
  F : FuncId → Option AFunc

section
variable (S : Fns) (base : Nat)

def WpF (f : FuncId) (args : List V) (h : Heap) (Q : V → Heap → Prop) : Prop := ∃ n v h', evCall S.X S.F n base f args h = some (v, h') ∧ Q v h'
def WpO (ops : List AOper) (en : Env) (h : Heap) (Q : Env → Heap → Prop) : Prop := ∃ n en' h', evOps (evCall S.X S.F n) base ops en h = some (en', h') ∧ Q en' h'
def WpC (c : ACode) (en : Env) (h : Heap) (Q : Ex → Env → Heap → Prop) : Prop := ∃ n ex en' h', evC (evCall S.X S.F n) base n c en h = some (ex, en', h') ∧ Q ex en' h'
end

section
variable {S : Fns} {base : Nat}

theorem WpF.mono {f : FuncId} {args : List V} {h : Heap} {Q R : V → Heap → Prop} (hw : WpF S base f args h Q) (hq : ∀ v h', Q v h' → R v h') : WpF S base f args h R :=
  let ⟨n, v, h', e, q⟩ := hw; ⟨n, v, h', e, hq _ _ q⟩
theorem WpC.mono {c : ACode} {en : Env} {h : Heap} {Q R : Ex → Env → Heap → Prop} (hw : WpC S base c en h Q) (hq : ∀ ex en h', Q ex en h' → R ex en h') : WpC S base c en h R :=
  let ⟨n, ex, en, h', e, q⟩ := hw; ⟨n, ex, en, h', e, hq _ _ _ q⟩

theorem WpO.nil {en : Env} {h : Heap} {Q : Env → Heap → Prop} (hq : Q en h) : WpO S base [] en h Q := ⟨0, en, h, rfl, hq⟩

/-- One operation that is no call. -/
theorem WpO.op {dst : Option Nat} {op : AOp} {r : List AOper} {en : Env} {h h1 : Heap} {v : V} {Q : Env → Heap → Prop} (hs : step base en h op = some (v, h1)) (hn : WpO S base r (en.put dst v) h1 Q) :
    WpO S base (⟨dst, op, none, []⟩ :: r) en h Q := by
  obtain ⟨n, en', h', e, q⟩ := hn
  refine ⟨n, en', h', ?_, q⟩
  rw [evOps_cons]
  have : evVal (evCall S.X S.F n) base ⟨dst, op, none, []⟩ en h = some (v, h1) := by
    simp only [evVal, evOper, offOk, List.all_nil, if_true, evOp]
    split
    · simp [step] at hs
    · exact hs
  rw [this]
  exact e

theorem WpO.call {dst : Option Nat} {f : Opd} {args : List Opd} {r : List AOper} {en : Env} {h : Heap} {k : FuncId} {vs : List V} {Q : Env → Heap → Prop} (ht : target (f.get en) (getsO en args) = some (k, vs))
    (hw : WpF S base k vs h fun v h1 => WpO S base r (en.put dst v) h1 Q) : WpO S base (⟨dst, .call f args, none, []⟩ :: r) en h Q := by
  obtain ⟨n, v, h1, e1, m, en', h', e2, q⟩ := hw
  refine ⟨max n m, en', h', ?_, q⟩
  rw [evOps_cons]
  have : evVal (evCall S.X S.F (max n m)) base ⟨dst, .call f args, none, []⟩ en h = some (v, h1) := by
    simp only [evVal, evOper, offOk, List.all_nil, if_true, evOp, ht]
    exact evCall_mono (Nat.le_max_left n m) _ _ _ _ _ e1
  rw [this]
  exact evOps_mono (evCall_mono (Nat.le_max_right n m)) e2

/-- A read that keeps off what is written. -/
theorem WpO.keep {dst : Option Nat} {op : AOp} {g : Option (Nat × Bool)} {off : List Nat} {r : List AOper} {en : Env} {h : Heap} {Q : Env → Heap → Prop} (ho : offOk en ⟨dst, op, g, off⟩ = true) (hw : WpO S base (⟨dst, op, g, []⟩ :: r) en h Q) :
    WpO S base (⟨dst, op, g, off⟩ :: r) en h Q := by
  obtain ⟨n, en', h', e, q⟩ := hw
  refine ⟨n, en', h', ?_, q⟩
  rw [evOps_cons] at e ⊢
  have hev : evOper (evCall S.X S.F n) base en h ⟨dst, op, g, off⟩ = evOper (evCall S.X S.F n) base en h ⟨dst, op, g, []⟩ := by
    unfold evOper
    rw [ho]
    rfl
  have : evVal (evCall S.X S.F n) base ⟨dst, op, g, off⟩ en h = evVal (evCall S.X S.F n) base ⟨dst, op, g, []⟩ en h := by
    simp only [evVal, hev]
  rw [this]
  exact e

/-- A guard that lets through. -/
theorem WpO.take {dst : Option Nat} {op : AOp} {g : Nat} {want : Bool} {r : List AOper} {en : Env} {h : Heap} {Q : Env → Heap → Prop} (hg : en g = .bool want) (hw : WpO S base (⟨dst, op, none, []⟩ :: r) en h Q) :
    WpO S base (⟨dst, op, some (g, want), []⟩ :: r) en h Q := by
  obtain ⟨n, en', h', e, q⟩ := hw
  refine ⟨n, en', h', ?_, q⟩
  rw [evOps_cons] at e ⊢
  have : evVal (evCall S.X S.F n) base ⟨dst, op, some (g, want), []⟩ en h = evVal (evCall S.X S.F n) base ⟨dst, op, none, []⟩ en h := by
    simp only [evVal, hg, gOk, beq_self_eq_true]
    rfl
  rw [this]
  exact e

/-- A guard that does not. -/
theorem WpO.leave {dst : Option Nat} {op : AOp} {g : Nat} {t want : Bool} {r : List AOper} {en : Env} {h : Heap} {Q : Env → Heap → Prop} (hg : en g = .bool t) (hne : t ≠ want) (hw : WpO S base r (en.put dst (.tup [])) h Q) :
    WpO S base (⟨dst, op, some (g, want), []⟩ :: r) en h Q := by
  obtain ⟨n, en', h', e, q⟩ := hw
  refine ⟨n, en', h', ?_, q⟩
  rw [evOps_cons]
  have : evVal (evCall S.X S.F n) base ⟨dst, op, some (g, want), []⟩ en h = some (.tup [], h) := by
    have : (t == want) = false := by simpa using hne
    simp only [evVal, hg, gOk, this]
  rw [this]
  exact e

theorem WpC.skip {en : Env} {h : Heap} {Q : Ex → Env → Heap → Prop} (hq : Q .normal en h) : WpC S base .skip en h Q := ⟨0, _, _, _, rfl, hq⟩
theorem WpC.ret {en : Env} {h : Heap} {Q : Ex → Env → Heap → Prop} (hq : Q .ret en h) : WpC S base .ret en h Q := ⟨0, _, _, _, rfl, hq⟩
theorem WpC.exit {id : Nat} {en : Env} {h : Heap} {Q : Ex → Env → Heap → Prop} (hq : Q (.exit id) en h) : WpC S base (.exit id) en h Q := ⟨0, _, _, _, rfl, hq⟩

theorem WpC.region {ops : List AOper} {en : Env} {h : Heap} {Q : Ex → Env → Heap → Prop} (hw : WpO S base ops en h (Q .normal)) : WpC S base (.region ops) en h Q := by
  obtain ⟨n, en', h', e, q⟩ := hw
  exact ⟨n, .normal, en', h', by simp only [evC, e], q⟩

/-- How a code goes on behind another. -/
def thenQ (K : Env → Heap → Prop) (Q : Ex → Env → Heap → Prop) : Ex → Env → Heap → Prop
  | .normal => K
  | ex => Q ex

theorem WpC.seq {a b : ACode} {en : Env} {h : Heap} {Q : Ex → Env → Heap → Prop} (hw : WpC S base a en h (thenQ (fun en h => WpC S base b en h Q) Q)) : WpC S base (.seq a b) en h Q := by
  obtain ⟨n, ex, en1, h1, e1, q⟩ := hw
  cases ex with
  | normal =>
    obtain ⟨m, ex, en', h', e2, q⟩ := q
    refine ⟨max n m, ex, en', h', ?_, q⟩
    simp only [evC, evC_mono (evCall_mono (Nat.le_max_left n m)) (Nat.le_max_left n m) e1]
    exact evC_mono (evCall_mono (Nat.le_max_right n m)) (Nat.le_max_right n m) e2
  | exit id => exact ⟨n, _, _, _, by simp only [evC, e1], q⟩
  | ret => exact ⟨n, _, _, _, by simp only [evC, e1], q⟩

theorem WpC.cond {c : Opd} {a b : ACode} {en : Env} {h : Heap} {t : Bool} {Q : Ex → Env → Heap → Prop} (hc : c.get en = .bool t) (hw : if t then WpC S base a en h Q else WpC S base b en h Q) : WpC S base (.cond c a b) en h Q := by
  cases t with
  | true =>
    obtain ⟨n, ex, en', h', e, q⟩ := hw
    exact ⟨n, ex, en', h', by simp only [evC, hc, if_true]; exact e, q⟩
  | false =>
    simp only [Bool.false_eq_true, if_false] at hw
    obtain ⟨n, ex, en', h', e, q⟩ := hw
    exact ⟨n, ex, en', h', by simp only [evC, hc, Bool.false_eq_true, if_false]; exact e, q⟩

/-- What a block makes of an exit. -/
def blockQ (id : Nat) (Q : Ex → Env → Heap → Prop) : Ex → Env → Heap → Prop
  | .exit i => if i = id then Q .normal else Q (.exit i)
  | ex => Q ex

theorem WpC.block {id : Nat} {c : ACode} {en : Env} {h : Heap} {Q : Ex → Env → Heap → Prop} (hw : WpC S base c en h (blockQ id Q)) : WpC S base (.block id c) en h Q := by
  obtain ⟨n, ex, en', h', e, q⟩ := hw
  cases ex with
  | normal => exact ⟨n, _, _, _, by simp only [evC, e], q⟩
  | ret => exact ⟨n, _, _, _, by simp only [evC, e], q⟩
  | exit i =>
    simp only [blockQ] at q
    by_cases hi : i = id
    · rw [if_pos hi] at q
      exact ⟨n, .normal, _, _, by simp only [evC, e, if_pos hi], q⟩
    · rw [if_neg hi] at q
      exact ⟨n, .exit i, _, _, by simp only [evC, e, if_neg hi], q⟩

/-- One round of a loop, and the rest. -/
theorem WpC.loop {c : ACode} {en : Env} {h : Heap} {Q : Ex → Env → Heap → Prop} (hw : WpC S base c en h (thenQ (fun en h => WpC S base (.loop c) en h Q) Q)) : WpC S base (.loop c) en h Q := by
  obtain ⟨n, ex, en1, h1, e1, q⟩ := hw
  cases ex with
  | normal =>
    obtain ⟨m, ex, en', h', e2, q⟩ := q
    refine ⟨max n m + 1, ex, en', h', ?_, q⟩
    simp only [evC, iter] at e2 ⊢
    rw [evC_mono (evCall_mono (Nat.le_succ_of_le (Nat.le_max_left n m))) (Nat.le_succ_of_le (Nat.le_max_left n m)) e1]
    simp only
    exact iter_mono (fun _ _ _ e => evC_mono (evCall_mono (Nat.le_succ_of_le (Nat.le_max_right n m))) (Nat.le_succ_of_le (Nat.le_max_right n m)) e) (Nat.le_max_right n m) e2
  | exit id => exact ⟨n + 1, _, _, _, by simp only [evC, iter]; rw [evC_mono (evCall_mono (Nat.le_succ n)) (Nat.le_succ n) e1], q⟩
  | ret => exact ⟨n + 1, _, _, _, by simp only [evC, iter]; rw [evC_mono (evCall_mono (Nat.le_succ n)) (Nat.le_succ n) e1], q⟩

/-- A loop, by an invariant that a measure goes with. -/
theorem WpC.loopInv {c : ACode} {Q : Ex → Env → Heap → Prop} (I : Nat → Env → Heap → Prop) (hstep : ∀ k en h, I k en h → WpC S base c en h (thenQ (fun en' h' => ∃ j, j < k ∧ I j en' h') Q)) :
    ∀ k en h, I k en h → WpC S base (.loop c) en h Q := by
  intro k
  induction k using Nat.strongRecOn with
  | _ k ih =>
    intro en h hi
    refine WpC.loop ((hstep k en h hi).mono fun ex en' h' q => ?_)
    cases ex with
    | normal => obtain ⟨j, hj, hi'⟩ := q; exact ih j hj en' h' hi'
    | exit id => exact q
    | ret => exact q

/-- A call of a function whose body is known, and whose blocks stay. -/
theorem WpF.body {f : FuncId} {A : AFunc} {args : List V} {h : Heap} {Q : V → Heap → Prop} (hX : S.X f = none) (hF : S.F f = some A) (hp : A.pure = false) (hl : args.length = A.nparams)
    (hw : WpC S base A.body (fun t => args.getD t .undef) h fun ex en h' => (∀ i, ex ≠ .exit i) ∧ ∃ rs, evRess en h' A.results = some rs ∧ Q (oneOrTup rs) h') : WpF S base f args h Q := by
  obtain ⟨n, ex, en, h', e, hno, rs, hr, q⟩ := hw
  refine ⟨n + 1, oneOrTup rs, h', ?_, q⟩
  simp only [evCall, hX, hF, evFunc, hp, Bool.false_eq_true, if_false, if_pos hl, e]
  cases ex with
  | exit i => exact absurd rfl (hno i)
  | normal => simp [hr]
  | ret => simp [hr]

/-- A call of a function whose body is known, and whose own blocks are gone behind it. -/
theorem WpF.bodyPure {f : FuncId} {A : AFunc} {args : List V} {h : Heap} {Q : V → Heap → Prop} (hX : S.X f = none) (hF : S.F f = some A) (hp : A.pure = true) (hl : args.length = A.nparams)
    (hw : WpC S h.length A.body (fun t => args.getD t .undef) h fun ex en h' => (∀ i, ex ≠ .exit i) ∧ ∃ rs, evRess en h' A.results = some rs ∧ ∃ n v, freezeV h' h.length n (oneOrTup rs) = some v ∧ Q v (h'.take h.length)) : WpF S base f args h Q := by
  obtain ⟨n, ex, en, h', e, hno, rs, hr, m, v, hv, q⟩ := hw
  refine ⟨max n m + 1, v, h'.take h.length, ?_, q⟩
  simp only [evCall, hX, hF, evFunc, hp, if_true, if_pos hl, evC_mono (evCall_mono (Nat.le_max_left n m)) (Nat.le_max_left n m) e]
  cases ex with
  | exit i => exact absurd rfl (hno i)
  | normal => simp [hr, freezeV_mono (Nat.le_max_right n m) hv]
  | ret => simp [hr, freezeV_mono (Nat.le_max_right n m) hv]

/-- A call of a function that is known by a contract. -/
theorem WpF.ext {f : FuncId} {g : Nat → List V → Heap → Option (V × Heap)} {args : List V} {h h' : Heap} {v : V} {Q : V → Heap → Prop} (hX : S.X f = some g) (he : g base args h = some (v, h')) (hq : Q v h') : WpF S base f args h Q :=
  ⟨1, v, h', by simp only [evCall, hX, he], hq⟩

end
end Go.Am
