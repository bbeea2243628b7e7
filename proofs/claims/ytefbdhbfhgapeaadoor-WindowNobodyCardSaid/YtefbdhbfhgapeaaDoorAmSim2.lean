/- Am: more rules as equivalences. -/
import Derived.Test.YtefbdhbfhgapeaaDoorAmSim
namespace Go.Am
abbrev iv (n : Int) : List V := [.sc (.int .i64 n)]
theorem put_app (en : Env) (t x : Nat) (v : V) : (en.put (some t) v) x = if x = t then v else en x := rfl
theorem put_none (en : Env) (v : V) : en.put none v = en := rfl
theorem int_beq (a b : Int) : (a == b) = decide (a = b) := by
  by_cases h : a = b
  · simp [h]
  · simp [h]
theorem int_bne (a b : Int) : (a != b) = !decide (a = b) := by
  by_cases h : a = b
  · simp [h]
  · simp [h]
theorem wrap_i64 {n : Int} (h0 : -9223372036854775808 ≤ n) (h1 : n ≤ 9223372036854775807) : IntKind.wrap .i64 n = n := by
  simp [IntKind.wrap, IntKind.signed, IntKind.bits]
  omega


section
variable {S : Fns} {base : Nat}

theorem WpC_skip {en : Env} {h : Heap} {Q : Ex → Env → Heap → Prop} : WpC S base .skip en h Q ↔ Q .normal en h := by
  refine ⟨?_, WpC.skip⟩
  rintro ⟨n, ex, en', h', e, q⟩
  simp only [evC, Option.some.injEq, Prod.mk.injEq] at e
  obtain ⟨rfl, rfl, rfl⟩ := e
  exact q

theorem WpC_ret {en : Env} {h : Heap} {Q : Ex → Env → Heap → Prop} : WpC S base .ret en h Q ↔ Q .ret en h := by
  refine ⟨?_, WpC.ret⟩
  rintro ⟨n, ex, en', h', e, q⟩
  simp only [evC, Option.some.injEq, Prod.mk.injEq] at e
  obtain ⟨rfl, rfl, rfl⟩ := e
  exact q

theorem WpC_exit {id : Nat} {en : Env} {h : Heap} {Q : Ex → Env → Heap → Prop} : WpC S base (.exit id) en h Q ↔ Q (.exit id) en h := by
  refine ⟨?_, WpC.exit⟩
  rintro ⟨n, ex, en', h', e, q⟩
  simp only [evC, Option.some.injEq, Prod.mk.injEq] at e
  obtain ⟨rfl, rfl, rfl⟩ := e
  exact q

theorem WpC_region {ops : List AOper} {en : Env} {h : Heap} {Q : Ex → Env → Heap → Prop} : WpC S base (.region ops) en h Q ↔ WpO S base ops en h (Q .normal) := by
  refine ⟨?_, WpC.region⟩
  rintro ⟨n, ex, en', h', e, q⟩
  unfold evC at e
  split at e
  · rename_i en1 h1 e1
    simp only [Option.some.injEq, Prod.mk.injEq] at e
    obtain ⟨rfl, rfl, rfl⟩ := e
    exact ⟨n, _, _, e1, q⟩
  · simp at e

theorem WpC_seq {a b : ACode} {en : Env} {h : Heap} {Q : Ex → Env → Heap → Prop} : WpC S base (.seq a b) en h Q ↔ WpC S base a en h (thenQ (fun en h => WpC S base b en h Q) Q) := by
  refine ⟨?_, WpC.seq⟩
  rintro ⟨n, ex, en', h', e, q⟩
  unfold evC at e
  split at e
  · rename_i en1 h1 e1
    exact ⟨n, _, _, _, e1, n, _, _, _, e, q⟩
  · rename_i hne
    refine ⟨n, _, _, _, e, ?_⟩
    cases ex with
    | normal => exact absurd e (hne en' h')
    | exit id => exact q
    | ret => exact q

theorem WpC_block {id : Nat} {c : ACode} {en : Env} {h : Heap} {Q : Ex → Env → Heap → Prop} : WpC S base (.block id c) en h Q ↔ WpC S base c en h (blockQ id Q) := by
  refine ⟨?_, WpC.block⟩
  rintro ⟨n, ex, en', h', e, q⟩
  unfold evC at e
  split at e
  · rename_i i en1 h1 e1
    refine ⟨n, _, _, _, e1, ?_⟩
    split at e
    · rename_i hi
      simp only [Option.some.injEq, Prod.mk.injEq] at e
      obtain ⟨rfl, rfl, rfl⟩ := e
      simpa [blockQ, hi] using q
    · rename_i hi
      simp only [Option.some.injEq, Prod.mk.injEq] at e
      obtain ⟨rfl, rfl, rfl⟩ := e
      simpa [blockQ, hi] using q
  · rename_i hne
    refine ⟨n, _, _, _, e, ?_⟩
    cases ex with
    | exit i => exact absurd e (hne i en' h')
    | normal => exact q
    | ret => exact q

theorem WpC_condI {c : Opd} {a b : ACode} {en : Env} {h : Heap} {Q : Ex → Env → Heap → Prop} : WpC S base (.cond c a b) en h Q ↔ boolQ (c.get en) fun t => if t = true then WpC S base a en h Q else WpC S base b en h Q := by
  refine ⟨?_, WpC_cond⟩
  rintro ⟨n, ex, en', h', e, q⟩
  unfold evC at e
  split at e
  · rename_i t et
    rw [et, boolQ_bool]
    split at e
    · rename_i ht
      rw [if_pos ht]
      exact ⟨n, _, _, _, e, q⟩
    · rename_i ht
      rw [if_neg ht]
      exact ⟨n, _, _, _, e, q⟩
  · simp at e

theorem thenQ_normal {K : Env → Heap → Prop} {Q : Ex → Env → Heap → Prop} {en : Env} {h : Heap} : thenQ K Q .normal en h = K en h := rfl
theorem thenQ_ret {K : Env → Heap → Prop} {Q : Ex → Env → Heap → Prop} {en : Env} {h : Heap} : thenQ K Q .ret en h = Q .ret en h := rfl
theorem thenQ_exit {K : Env → Heap → Prop} {Q : Ex → Env → Heap → Prop} {en : Env} {h : Heap} {i : Nat} : thenQ K Q (.exit i) en h = Q (.exit i) en h := rfl
theorem blockQ_normal {id : Nat} {Q : Ex → Env → Heap → Prop} {en : Env} {h : Heap} : blockQ id Q .normal en h = Q .normal en h := rfl
theorem blockQ_ret {id : Nat} {Q : Ex → Env → Heap → Prop} {en : Env} {h : Heap} : blockQ id Q .ret en h = Q .ret en h := rfl
theorem blockQ_exit {id i : Nat} {Q : Ex → Env → Heap → Prop} {en : Env} {h : Heap} : blockQ id Q (.exit i) en h = if i = id then Q .normal en h else Q (.exit i) en h := by
  simp only [blockQ]
  split <;> rfl

/-- What a call comes to, once known, is what it comes to. -/
theorem WpF_iff {f : FuncId} {args : List V} {h h0 : Heap} {v0 : V} (hw : WpF S base f args h fun v h' => v = v0 ∧ h' = h0) {Q : V → Heap → Prop} : WpF S base f args h Q ↔ Q v0 h0 := by
  constructor
  · rintro ⟨n, v, h', e, q⟩
    obtain ⟨m, v2, h2, e2, rfl, rfl⟩ := hw
    have a := evCall_mono (X := S.X) (F := S.F) (Nat.le_max_left n m) _ _ _ _ _ e
    have b := evCall_mono (X := S.X) (F := S.F) (Nat.le_max_right n m) _ _ _ _ _ e2
    rw [a] at b
    injection b with b
    injection b with b1 b2
    subst b1; subst b2
    exact q
  · intro q
    exact hw.mono fun v h' ⟨e1, e2⟩ => by subst e1; subst e2; exact q

theorem WpC_loopI {c : ACode} {Q : Ex → Env → Heap → Prop} {en : Env} {h : Heap} (I : Nat → Env → Heap → Prop) (k : Nat) (hi : I k en h) (hstep : ∀ k en h, I k en h → WpC S base c en h (thenQ (fun en' h' => ∃ j, j < k ∧ I j en' h') Q)) :
    WpC S base (.loop c) en h Q := WpC.loopInv I hstep k en h hi

/-! ### Results -/

def Frz (h : Heap) (b : Nat) (v : V) (Q : V → Prop) : Prop := ∃ n v', freezeV h b n v = some v' ∧ Q v'
def FrzL (h : Heap) (b : Nat) (v : List V) (Q : List V → Prop) : Prop := ∃ n v', freezeVs h b n v = some v' ∧ Q v'

variable {h : Heap} {b : Nat}
theorem Frz_sc {v : Value} {Q : V → Prop} (q : Q (.sc v)) : Frz h b (.sc v) Q := ⟨1, _, rfl, q⟩
theorem Frz_slc {ex : Cp} {sz : Nat} {rs : List (List V)} {Q : V → Prop} (q : Q (.slc ex sz rs)) : Frz h b (.slc ex sz rs) Q := ⟨1, _, rfl, q⟩
theorem Frz_undef {Q : V → Prop} (q : Q .undef) : Frz h b .undef Q := ⟨1, _, rfl, q⟩
theorem FrzL_nil {Q : List V → Prop} (q : Q []) : FrzL h b [] Q := ⟨1, _, rfl, q⟩
theorem FrzL_cons {v : V} {vs : List V} {Q : List V → Prop} (q : Frz h b v fun v' => FrzL h b vs fun vs' => Q (v' :: vs')) : FrzL h b (v :: vs) Q := by
  obtain ⟨n, v', e1, m, vs', e2, q⟩ := q
  refine ⟨max n m + 1, v' :: vs', ?_, q⟩
  simp only [freezeVs, freezeV_mono (Nat.le_max_left n m) e1, freezeVs_mono (Nat.le_max_right n m) e2, Option.bind_some, Option.map_some]
theorem Frz_tup {vs : List V} {Q : V → Prop} (q : FrzL h b vs fun vs' => Q (.tup vs')) : Frz h b (.tup vs) Q := by
  obtain ⟨n, vs', e, q⟩ := q
  exact ⟨n + 1, _, by simp only [freezeV, e, Option.map_some], q⟩
theorem Frz_agg {vs : List V} {Q : V → Prop} (q : FrzL h b vs fun vs' => Q (.agg vs')) : Frz h b (.agg vs) Q := by
  obtain ⟨n, vs', e, q⟩ := q
  exact ⟨n + 1, _, by simp only [freezeV, e, Option.map_some], q⟩

theorem freezeV_det {n m : Nat} {v a c : V} (e : freezeV h b n v = some a) (e2 : freezeV h b m v = some c) : a = c := by
  have q1 := freezeV_mono (Nat.le_max_left n m) e
  have q2 := freezeV_mono (Nat.le_max_right n m) e2
  rw [q1] at q2
  exact Option.some.inj q2
theorem freezeVs_det {n m : Nat} {v a c : List V} (e : freezeVs h b n v = some a) (e2 : freezeVs h b m v = some c) : a = c := by
  have q1 := freezeVs_mono (Nat.le_max_left n m) e
  have q2 := freezeVs_mono (Nat.le_max_right n m) e2
  rw [q1] at q2
  exact Option.some.inj q2
theorem Frz_sci {v : Value} {Q : V → Prop} : Frz h b (.sc v) Q ↔ Q (.sc v) := ⟨fun ⟨_, _, e, q⟩ => freezeV_det (m := 1) e rfl ▸ q, Frz_sc⟩
theorem Frz_slci {ex : Cp} {sz : Nat} {rs : List (List V)} {Q : V → Prop} : Frz h b (.slc ex sz rs) Q ↔ Q (.slc ex sz rs) := ⟨fun ⟨_, _, e, q⟩ => freezeV_det (m := 1) e rfl ▸ q, Frz_slc⟩
theorem FrzL_nili {Q : List V → Prop} : FrzL h b [] Q ↔ Q [] := ⟨fun ⟨_, _, e, q⟩ => freezeVs_det (m := 1) e rfl ▸ q, FrzL_nil⟩
theorem FrzL_consi {v : V} {vs : List V} {Q : List V → Prop} : FrzL h b (v :: vs) Q ↔ Frz h b v fun v' => FrzL h b vs fun vs' => Q (v' :: vs') := by
  refine ⟨?_, FrzL_cons⟩
  rintro ⟨n, r, e, q⟩
  cases n with
  | zero => simp [freezeVs] at e
  | succ n =>
    simp only [freezeVs, Option.bind_eq_some_iff, Option.map_eq_some_iff] at e
    obtain ⟨a, e1, c, e2, rfl⟩ := e
    exact ⟨n, a, e1, n, c, e2, q⟩
theorem Frz_tupi {vs : List V} {Q : V → Prop} : Frz h b (.tup vs) Q ↔ FrzL h b vs fun vs' => Q (.tup vs') := by
  refine ⟨?_, Frz_tup⟩
  rintro ⟨n, r, e, q⟩
  cases n with
  | zero => simp [freezeV] at e
  | succ n =>
    simp only [freezeV, Option.map_eq_some_iff] at e
    obtain ⟨a, e1, rfl⟩ := e
    exact ⟨n, a, e1, q⟩
theorem Frz_aggi {vs : List V} {Q : V → Prop} : Frz h b (.agg vs) Q ↔ FrzL h b vs fun vs' => Q (.agg vs') := by
  refine ⟨?_, Frz_agg⟩
  rintro ⟨n, r, e, q⟩
  cases n with
  | zero => simp [freezeV] at e
  | succ n =>
    simp only [freezeV, Option.map_eq_some_iff] at e
    obtain ⟨a, e1, rfl⟩ := e
    exact ⟨n, a, e1, q⟩

/-- The end of a function whose results are frozen. -/
def endP (rs : List ARes) (b : Nat) (Q : V → Heap → Prop) (ex : Ex) (en : Env) (h : Heap) : Prop :=
  match ex with
  | .exit _ => False
  | _ => match evRess en h rs with
    | some vs => Frz h b (oneOrTup vs) fun v => Q v (h.take b)
    | none => False
/-- .. of one whose results are not. -/
def endI (rs : List ARes) (Q : V → Heap → Prop) (ex : Ex) (en : Env) (h : Heap) : Prop :=
  match ex with
  | .exit _ => False
  | _ => match evRess en h rs with
    | some vs => Q (oneOrTup vs) h
    | none => False

def resQ (o : Option (List V)) (Q : List V → Prop) : Prop := match o with | some vs => Q vs | none => False
theorem resQ_some {vs : List V} {Q : List V → Prop} : resQ (some vs) Q = Q vs := rfl
theorem endP_ret {rs : List ARes} {Q : V → Heap → Prop} {en : Env} : endP rs b Q .ret en h = resQ (evRess en h rs) fun vs => Frz h b (oneOrTup vs) fun v => Q v (h.take b) := rfl
theorem endP_normal {rs : List ARes} {Q : V → Heap → Prop} {en : Env} : endP rs b Q .normal en h = resQ (evRess en h rs) fun vs => Frz h b (oneOrTup vs) fun v => Q v (h.take b) := rfl
theorem endI_ret {rs : List ARes} {Q : V → Heap → Prop} {en : Env} : endI rs Q .ret en h = resQ (evRess en h rs) fun vs => Q (oneOrTup vs) h := rfl
theorem endI_normal {rs : List ARes} {Q : V → Heap → Prop} {en : Env} : endI rs Q .normal en h = resQ (evRess en h rs) fun vs => Q (oneOrTup vs) h := rfl

theorem WpF_pure {f : FuncId} {A : AFunc} {args : List V} {Q : V → Heap → Prop} (hX : S.X f = none) (hF : S.F f = some A) (hp : A.pure = true) (hl : args.length = A.nparams)
    (hw : WpC S h.length A.body (fun t => args.getD t .undef) h (endP A.results h.length Q)) : WpF S base f args h Q := by
  refine WpF.bodyPure hX hF hp hl (hw.mono ?_)
  intro ex en h' q
  unfold endP at q
  cases ex with
  | exit i => exact q.elim
  | normal =>
    simp only at q
    refine ⟨by simp, ?_⟩
    split at q
    · rename_i vs e
      obtain ⟨n, v', e2, q⟩ := q
      exact ⟨vs, e, n, v', e2, q⟩
    · exact q.elim
  | ret =>
    simp only at q
    refine ⟨by simp, ?_⟩
    split at q
    · rename_i vs e
      obtain ⟨n, v', e2, q⟩ := q
      exact ⟨vs, e, n, v', e2, q⟩
    · exact q.elim

theorem WpF_imp {f : FuncId} {A : AFunc} {args : List V} {Q : V → Heap → Prop} (hX : S.X f = none) (hF : S.F f = some A) (hp : A.pure = false) (hl : args.length = A.nparams)
    (hw : WpC S base A.body (fun t => args.getD t .undef) h (endI A.results Q)) : WpF S base f args h Q := by
  refine WpF.body hX hF hp hl (hw.mono ?_)
  intro ex en h' q
  unfold endI at q
  cases ex with
  | exit i => exact q.elim
  | normal =>
    simp only at q
    refine ⟨by simp, ?_⟩
    split at q
    · rename_i vs e
      exact ⟨vs, e, q⟩
    · exact q.elim
  | ret =>
    simp only at q
    refine ⟨by simp, ?_⟩
    split at q
    · rename_i vs e
      exact ⟨vs, e, q⟩
    · exact q.elim

/-! ### Rules whose way on is data: nothing behind an operation is looked at before its value is known. -/

def opQ (S : Fns) (base : Nat) (x : Option (V × Heap)) (dst : Option Nat) (r : List AOper) (en : Env) (Q : Env → Heap → Prop) : Prop :=
  match x with
  | some (v, h) => WpO S base r (en.put dst v) h Q
  | none => False
def guardQ (S : Fns) (base : Nat) (g : V) (want : Bool) (dst : Option Nat) (op : AOp) (r : List AOper) (en : Env) (h : Heap) (Q : Env → Heap → Prop) : Prop :=
  match gOk g want with
  | some true => WpO S base (⟨dst, op, none, []⟩ :: r) en h Q
  | some false => WpO S base r (en.put dst (.tup [])) h Q
  | none => False
def callD (S : Fns) (base : Nat) (t : Option (FuncId × List V)) (dst : Option Nat) (r : List AOper) (en : Env) (h : Heap) (Q : Env → Heap → Prop) : Prop :=
  match t with
  | some (k, vs) => WpF S base k vs h fun v h1 => WpO S base r (en.put dst v) h1 Q
  | none => False
def thenC (S : Fns) (base : Nat) (b : ACode) (Q : Ex → Env → Heap → Prop) (ex : Ex) (en : Env) (h : Heap) : Prop :=
  match ex with
  | .normal => WpC S base b en h Q
  | ex => Q ex en h
def condQ (S : Fns) (base : Nat) (c : V) (a b : ACode) (en : Env) (h : Heap) (Q : Ex → Env → Heap → Prop) : Prop :=
  match c with
  | .sc (.bool t) => if t = true then WpC S base a en h Q else WpC S base b en h Q
  | _ => False

section
variable {x : Option (V × Heap)} {dst : Option Nat} {r : List AOper} {en : Env} {Q : Env → Heap → Prop} {h : Heap} {v : V}
theorem opQ_some : opQ S base (some (v, h)) dst r en Q = WpO S base r (en.put dst v) h Q := rfl
theorem opQ_none : opQ S base none dst r en Q = False := rfl
theorem WpO_opD {op : AOp} (hn : ∀ f a, op ≠ .call f a) : WpO S base (⟨dst, op, none, []⟩ :: r) en h Q ↔ opQ S base (step base en h op) dst r en Q := by
  rw [WpO_op hn]
  unfold okQ opQ
  rfl
theorem guardQ_tt {op : AOp} : guardQ S base (.sc (.bool true)) true dst op r en h Q = WpO S base (⟨dst, op, none, []⟩ :: r) en h Q := rfl
theorem guardQ_ff {op : AOp} : guardQ S base (.sc (.bool false)) false dst op r en h Q = WpO S base (⟨dst, op, none, []⟩ :: r) en h Q := rfl
theorem guardQ_tf {op : AOp} : guardQ S base (.sc (.bool true)) false dst op r en h Q = WpO S base r (en.put dst (.tup [])) h Q := rfl
theorem guardQ_ft {op : AOp} : guardQ S base (.sc (.bool false)) true dst op r en h Q = WpO S base r (en.put dst (.tup [])) h Q := rfl
theorem guardQ_no {op : AOp} {want : Bool} : guardQ S base (.tup []) want dst op r en h Q = WpO S base r (en.put dst (.tup [])) h Q := rfl
theorem guardQ_b {op : AOp} {t want : Bool} : guardQ S base (.sc (.bool t)) want dst op r en h Q = if t = want then WpO S base (⟨dst, op, none, []⟩ :: r) en h Q else WpO S base r (en.put dst (.tup [])) h Q := by
  cases t <;> cases want <;> rfl
theorem WpO_guardD {op : AOp} {g : Nat} {want : Bool} : WpO S base (⟨dst, op, some (g, want), []⟩ :: r) en h Q ↔ guardQ S base (en g) want dst op r en h Q := by
  rw [WpO_guard]
  rfl
theorem callD_some {k : FuncId} {vs : List V} : callD S base (some (k, vs)) dst r en h Q = WpF S base k vs h fun v h1 => WpO S base r (en.put dst v) h1 Q := rfl
theorem WpO_callD {f : Opd} {args : List Opd} : WpO S base (⟨dst, .call f args, none, []⟩ :: r) en h Q ↔ callD S base (target (f.get en) (getsO en args)) dst r en h Q := by
  rw [WpO_call]
  unfold callQ callD
  rfl
/-- A call whose end is known. -/
theorem callD_ret {k : FuncId} {vs : List V} {h0 : Heap} {v0 : V} (hw : WpF S base k vs h fun v h' => v = v0 ∧ h' = h0) : callD S base (some (k, vs)) dst r en h Q ↔ WpO S base r (en.put dst v0) h0 Q := WpF_iff hw
end
section
variable {a b : ACode} {en : Env} {h : Heap} {Q : Ex → Env → Heap → Prop}
theorem thenC_normal : thenC S base b Q .normal en h = WpC S base b en h Q := rfl
theorem thenC_ret : thenC S base b Q .ret en h = Q .ret en h := rfl
theorem thenC_exit {i : Nat} : thenC S base b Q (.exit i) en h = Q (.exit i) en h := rfl
theorem WpC_seqD : WpC S base (.seq a b) en h Q ↔ WpC S base a en h (thenC S base b Q) := WpC_seq.trans (by
  have : thenQ (fun en h => WpC S base b en h Q) Q = thenC S base b Q := by
    funext ex en h
    cases ex <;> rfl
  rw [this])
theorem condQ_true : condQ S base (.sc (.bool true)) a b en h Q = WpC S base a en h Q := rfl
theorem condQ_false : condQ S base (.sc (.bool false)) a b en h Q = WpC S base b en h Q := rfl
theorem condQ_bool {t : Bool} : condQ S base (.sc (.bool t)) a b en h Q = if t = true then WpC S base a en h Q else WpC S base b en h Q := rfl
theorem WpC_condD {c : Opd} : WpC S base (.cond c a b) en h Q ↔ condQ S base (c.get en) a b en h Q := by
  rw [WpC_condI]
  unfold boolQ condQ
  rfl
end
end
end Go.Am
