/- Am: the rules of AmWp as equivalences, for simp. -/
import Derived.Test.YtefbdhbfhgapeaaDoorAmWp
namespace Go.Am

/-- What an answer is good for. -/
def okQ (x : Option (V × Heap)) (Q : V → Heap → Prop) : Prop :=
  match x with
  | some (v, h) => Q v h
  | none => False

def boolQ (v : V) (Q : Bool → Prop) : Prop :=
  match v with
  | .sc (.bool t) => Q t
  | _ => False

@[simp] theorem okQ_some (v : V) (h : Heap) (Q : V → Heap → Prop) : okQ (some (v, h)) Q = Q v h := rfl
@[simp] theorem okQ_none (Q : V → Heap → Prop) : okQ none Q = False := rfl
@[simp] theorem boolQ_bool (t : Bool) (Q : Bool → Prop) : boolQ (.sc (.bool t)) Q = Q t := rfl

section
variable {S : Fns} {base : Nat}

theorem WpO_nil {en : Env} {h : Heap} {Q : Env → Heap → Prop} : WpO S base [] en h Q ↔ Q en h := by
  constructor
  · rintro ⟨n, en', h', e, q⟩
    simp only [evOps, Option.some.injEq, Prod.mk.injEq] at e
    obtain ⟨rfl, rfl⟩ := e
    exact q
  · exact WpO.nil

theorem WpO_op {dst : Option Nat} {op : AOp} {r : List AOper} {en : Env} {h : Heap} {Q : Env → Heap → Prop} (hn : ∀ f a, op ≠ .call f a) :
    WpO S base (⟨dst, op, none, []⟩ :: r) en h Q ↔ okQ (step base en h op) fun v h1 => WpO S base r (en.put dst v) h1 Q := by
  constructor
  · rintro ⟨n, en', h', e, q⟩
    rw [evOps_cons] at e
    have hv : evVal (evCall S.X S.F n) base ⟨dst, op, none, []⟩ en h = step base en h op := by
      simp only [evVal, evOper, offOk, List.all_nil, if_true, evOp_noCall hn]
    rw [hv, Option.bind_eq_some_iff] at e
    obtain ⟨⟨v, h1⟩, e1, e2⟩ := e
    rw [e1]
    exact ⟨n, en', h', e2, q⟩
  · intro hq
    cases hs : step base en h op with
    | none => rw [hs] at hq; exact hq.elim
    | some p =>
      obtain ⟨v, h1⟩ := p
      rw [hs] at hq
      exact WpO.op hs hq

theorem WpO_guard {dst : Option Nat} {op : AOp} {g : Nat} {want : Bool} {r : List AOper} {en : Env} {h : Heap} {Q : Env → Heap → Prop} :
    WpO S base (⟨dst, op, some (g, want), []⟩ :: r) en h Q ↔ (match gOk (en g) want with
      | some true => WpO S base (⟨dst, op, none, []⟩ :: r) en h Q
      | some false => WpO S base r (en.put dst (.tup [])) h Q
      | none => False) := by
  constructor
  · rintro ⟨n, en', h', e, q⟩
    rw [evOps_cons, Option.bind_eq_some_iff] at e
    obtain ⟨p, e1, e2⟩ := e
    cases hen : gOk (en g) want with
    | none => simp [evVal, hen] at e1
    | some t =>
      simp only [evVal, hen] at e1
      cases t with
      | true =>
        refine ⟨n, en', h', ?_, q⟩
        rw [evOps_cons]
        have : evVal (evCall S.X S.F n) base ⟨dst, op, none, []⟩ en h = some p := e1
        rw [this]
        exact e2
      | false =>
        injection e1 with e1
        subst e1
        exact ⟨n, en', h', e2, q⟩
  · intro hq
    cases hen : gOk (en g) want with
    | none => rw [hen] at hq; exact hq.elim
    | some t =>
      rw [hen] at hq
      cases t with
      | true =>
        obtain ⟨n, en', h', e, q⟩ := hq
        refine ⟨n, en', h', ?_, q⟩
        rw [evOps_cons] at e ⊢
        have : evVal (evCall S.X S.F n) base ⟨dst, op, some (g, want), []⟩ en h = evVal (evCall S.X S.F n) base ⟨dst, op, none, []⟩ en h := by
          simp only [evVal, hen]
          rfl
        rw [this]
        exact e
      | false =>
        obtain ⟨n, en', h', e, q⟩ := hq
        refine ⟨n, en', h', ?_, q⟩
        rw [evOps_cons]
        have : evVal (evCall S.X S.F n) base ⟨dst, op, some (g, want), []⟩ en h = some (.tup [], h) := by
          simp only [evVal, hen]
        rw [this]
        exact e

/-- Calls. -/
def callQ (S : Fns) (base : Nat) (t : Option (FuncId × List V)) (h : Heap) (Q : V → Heap → Prop) : Prop :=
  match t with
  | some (k, vs) => WpF S base k vs h Q
  | none => False

@[simp] theorem callQ_some (S : Fns) (base : Nat) (k : FuncId) (vs : List V) (h : Heap) (Q : V → Heap → Prop) : callQ S base (some (k, vs)) h Q = WpF S base k vs h Q := rfl

theorem WpO_call {dst : Option Nat} {f : Opd} {args : List Opd} {r : List AOper} {en : Env} {h : Heap} {Q : Env → Heap → Prop} :
    WpO S base (⟨dst, .call f args, none, []⟩ :: r) en h Q ↔ callQ S base (target (f.get en) (getsO en args)) h fun v h1 => WpO S base r (en.put dst v) h1 Q := by
  constructor
  · rintro ⟨n, en', h', e, q⟩
    rw [evOps_cons, Option.bind_eq_some_iff] at e
    obtain ⟨⟨v, h1⟩, e1, e2⟩ := e
    have e1' := (evOper_inv (o := ⟨dst, .call f args, none, []⟩) (show evOper (evCall S.X S.F n) base en h ⟨dst, .call f args, none, []⟩ = some (v, h1) from e1)).2
    simp only [evOp] at e1'
    cases ht : target (f.get en) (getsO en args) with
    | none => rw [ht] at e1'; simp at e1'
    | some p =>
      obtain ⟨k, vs⟩ := p
      rw [ht] at e1'
      exact ⟨n, v, h1, e1', n, en', h', e2, q⟩
  · intro hq
    cases ht : target (f.get en) (getsO en args) with
    | none => rw [ht] at hq; exact hq.elim
    | some p =>
      obtain ⟨k, vs⟩ := p
      rw [ht] at hq
      exact WpO.call ht hq

theorem WpC_cond {c : Opd} {a b : ACode} {en : Env} {h : Heap} {Q : Ex → Env → Heap → Prop} (hw : boolQ (c.get en) fun t => if t then WpC S base a en h Q else WpC S base b en h Q) : WpC S base (.cond c a b) en h Q := by
  cases hen : c.get en with
  | sc x =>
    cases x with
    | bool t => rw [hen] at hw; exact WpC.cond hen hw
    | _ => rw [hen] at hw; exact hw.elim
  | _ => rw [hen] at hw; exact hw.elim
end
end Go.Am
