/- The abstract machine and what is proved in it, part 5. -/
import Derived.Test.YtpjdfeplfbmgpaaDoorAm4
import Derived.KernelRfl
import Derived.Laws.Strings
section
/- Am: more rules as equivalences. -/
namespace Go.Am
abbrev iv (n : Int) : List V := [.sc (.int .i64 n)]
theorem put_app (en : Env) (t x : Nat) (v : V) : (en.put (some t) v) x = if x = t then v else en x := rfl
theorem put_none (en : Env) (v : V) : en.put none v = en := rfl
theorem int_beq (a b : Int) : (a == b) = decide (a = b) := by
  by_cases h : a = b
  · simp [h]
  · simp [h]
theorem int_bne (a b : Int) : (a != b) = !decide (a = b) := by
  by_cases h : a = b
  · simp [h]
  · simp [h]
theorem wrap_i64 {n : Int} (h0 : -9223372036854775808 ≤ n) (h1 : n ≤ 9223372036854775807) : IntKind.wrap .i64 n = n := by
  simp [IntKind.wrap, IntKind.signed, IntKind.bits]
  omega


section
variable {S : Fns} {base : Nat}

theorem WpC_skip {en : Env} {h : Heap} {Q : Ex → Env → Heap → Prop} : WpC S base .skip en h Q ↔ Q .normal en h := by
  refine ⟨?_, WpC.skip⟩
  rintro ⟨n, ex, en', h', e, q⟩
  simp only [evC, Option.some.injEq, Prod.mk.injEq] at e
  obtain ⟨rfl, rfl, rfl⟩ := e
  exact q

theorem WpC_ret {en : Env} {h : Heap} {Q : Ex → Env → Heap → Prop} : WpC S base .ret en h Q ↔ Q .ret en h := by
  refine ⟨?_, WpC.ret⟩
  rintro ⟨n, ex, en', h', e, q⟩
  simp only [evC, Option.some.injEq, Prod.mk.injEq] at e
  obtain ⟨rfl, rfl, rfl⟩ := e
  exact q

theorem WpC_exit {id : Nat} {en : Env} {h : Heap} {Q : Ex → Env → Heap → Prop} : WpC S base (.exit id) en h Q ↔ Q (.exit id) en h := by
  refine ⟨?_, WpC.exit⟩
  rintro ⟨n, ex, en', h', e, q⟩
  simp only [evC, Option.some.injEq, Prod.mk.injEq] at e
  obtain ⟨rfl, rfl, rfl⟩ := e
  exact q

theorem WpC_region {ops : List AOper} {en : Env} {h : Heap} {Q : Ex → Env → Heap → Prop} : WpC S base (.region ops) en h Q ↔ WpO S base ops en h (Q .normal) := by
  refine ⟨?_, WpC.region⟩
  rintro ⟨n, ex, en', h', e, q⟩
  unfold evC at e
  split at e
  · rename_i en1 h1 e1
    simp only [Option.some.injEq, Prod.mk.injEq] at e
    obtain ⟨rfl, rfl, rfl⟩ := e
    exact ⟨n, _, _, e1, q⟩
  · simp at e

theorem WpC_seq {a b : ACode} {en : Env} {h : Heap} {Q : Ex → Env → Heap → Prop} : WpC S base (.seq a b) en h Q ↔ WpC S base a en h (thenQ (fun en h => WpC S base b en h Q) Q) := by
  refine ⟨?_, WpC.seq⟩
  rintro ⟨n, ex, en', h', e, q⟩
  unfold evC at e
  split at e
  · rename_i en1 h1 e1
    exact ⟨n, _, _, _, e1, n, _, _, _, e, q⟩
  · rename_i hne
    refine ⟨n, _, _, _, e, ?_⟩
    cases ex with
    | normal => exact absurd e (hne en' h')
    | exit id => exact q
    | ret => exact q

theorem WpC_block {id : Nat} {c : ACode} {en : Env} {h : Heap} {Q : Ex → Env → Heap → Prop} : WpC S base (.block id c) en h Q ↔ WpC S base c en h (blockQ id Q) := by
  refine ⟨?_, WpC.block⟩
  rintro ⟨n, ex, en', h', e, q⟩
  unfold evC at e
  split at e
  · rename_i i en1 h1 e1
    refine ⟨n, _, _, _, e1, ?_⟩
    split at e
    · rename_i hi
      simp only [Option.some.injEq, Prod.mk.injEq] at e
      obtain ⟨rfl, rfl, rfl⟩ := e
      simpa [blockQ, hi] using q
    · rename_i hi
      simp only [Option.some.injEq, Prod.mk.injEq] at e
      obtain ⟨rfl, rfl, rfl⟩ := e
      simpa [blockQ, hi] using q
  · rename_i hne
    refine ⟨n, _, _, _, e, ?_⟩
    cases ex with
    | exit i => exact absurd e (hne i en' h')
    | normal => exact q
    | ret => exact q

theorem WpC_condI {c : Opd} {a b : ACode} {en : Env} {h : Heap} {Q : Ex → Env → Heap → Prop} : WpC S base (.cond c a b) en h Q ↔ boolQ (c.get en) fun t => if t = true then WpC S base a en h Q else WpC S base b en h Q := by
  refine ⟨?_, WpC_cond⟩
  rintro ⟨n, ex, en', h', e, q⟩
  unfold evC at e
  split at e
  · rename_i t et
    rw [et, boolQ_bool]
    split at e
    · rename_i ht
      rw [if_pos ht]
      exact ⟨n, _, _, _, e, q⟩
    · rename_i ht
      rw [if_neg ht]
      exact ⟨n, _, _, _, e, q⟩
  · simp at e

theorem thenQ_normal {K : Env → Heap → Prop} {Q : Ex → Env → Heap → Prop} {en : Env} {h : Heap} : thenQ K Q .normal en h = K en h := rfl
theorem thenQ_ret {K : Env → Heap → Prop} {Q : Ex → Env → Heap → Prop} {en : Env} {h : Heap} : thenQ K Q .ret en h = Q .ret en h := rfl
theorem thenQ_exit {K : Env → Heap → Prop} {Q : Ex → Env → Heap → Prop} {en : Env} {h : Heap} {i : Nat} : thenQ K Q (.exit i) en h = Q (.exit i) en h := rfl
theorem blockQ_normal {id : Nat} {Q : Ex → Env → Heap → Prop} {en : Env} {h : Heap} : blockQ id Q .normal en h = Q .normal en h := rfl
theorem blockQ_ret {id : Nat} {Q : Ex → Env → Heap → Prop} {en : Env} {h : Heap} : blockQ id Q .ret en h = Q .ret en h := rfl
theorem blockQ_exit {id i : Nat} {Q : Ex → Env → Heap → Prop} {en : Env} {h : Heap} : blockQ id Q (.exit i) en h = if i = id then Q .normal en h else Q (.exit i) en h := by
  simp only [blockQ]
  split <;> rfl

/-- What a call comes to, once known, is what it comes to. -/
theorem WpF_iff {f : FuncId} {args : List V} {h h0 : Heap} {v0 : V} (hw : WpF S base f args h fun v h' => v = v0 ∧ h' = h0) {Q : V → Heap → Prop} : WpF S base f args h Q ↔ Q v0 h0 := by
  constructor
  · rintro ⟨n, v, h', e, q⟩
    obtain ⟨m, v2, h2, e2, rfl, rfl⟩ := hw
    have a := evCall_mono (X := S.X) (F := S.F) (Nat.le_max_left n m) _ _ _ _ _ e
    have b := evCall_mono (X := S.X) (F := S.F) (Nat.le_max_right n m) _ _ _ _ _ e2
    rw [a] at b
    injection b with b
    injection b with b1 b2
    subst b1; subst b2
    exact q
  · intro q
    exact hw.mono fun v h' ⟨e1, e2⟩ => by subst e1; subst e2; exact q

theorem WpC_loopI {c : ACode} {Q : Ex → Env → Heap → Prop} {en : Env} {h : Heap} (I : Nat → Env → Heap → Prop) (k : Nat) (hi : I k en h) (hstep : ∀ k en h, I k en h → WpC S base c en h (thenQ (fun en' h' => ∃ j, j < k ∧ I j en' h') Q)) :
    WpC S base (.loop c) en h Q := WpC.loopInv I hstep k en h hi

/-! ### Results -/

def Frz (h : Heap) (b : Nat) (v : V) (Q : V → Prop) : Prop := ∃ n v', freezeV h b n v = some v' ∧ Q v'
def FrzL (h : Heap) (b : Nat) (v : List V) (Q : List V → Prop) : Prop := ∃ n v', freezeVs h b n v = some v' ∧ Q v'

variable {h : Heap} {b : Nat}
theorem Frz_sc {v : Value} {Q : V → Prop} (q : Q (.sc v)) : Frz h b (.sc v) Q := ⟨1, _, rfl, q⟩
theorem Frz_slc {ex : Cp} {sz : Nat} {rs : List (List V)} {Q : V → Prop} (q : Q (.slc ex sz rs)) : Frz h b (.slc ex sz rs) Q := ⟨1, _, rfl, q⟩
theorem Frz_undef {Q : V → Prop} (q : Q .undef) : Frz h b .undef Q := ⟨1, _, rfl, q⟩
theorem FrzL_nil {Q : List V → Prop} (q : Q []) : FrzL h b [] Q := ⟨1, _, rfl, q⟩
theorem FrzL_cons {v : V} {vs : List V} {Q : List V → Prop} (q : Frz h b v fun v' => FrzL h b vs fun vs' => Q (v' :: vs')) : FrzL h b (v :: vs) Q := by
  obtain ⟨n, v', e1, m, vs', e2, q⟩ := q
  refine ⟨max n m + 1, v' :: vs', ?_, q⟩
  simp only [freezeVs, freezeV_mono (Nat.le_max_left n m) e1, freezeVs_mono (Nat.le_max_right n m) e2, Option.bind_some, Option.map_some]
theorem Frz_tup {vs : List V} {Q : V → Prop} (q : FrzL h b vs fun vs' => Q (.tup vs')) : Frz h b (.tup vs) Q := by
  obtain ⟨n, vs', e, q⟩ := q
  exact ⟨n + 1, _, by simp only [freezeV, e, Option.map_some], q⟩
theorem Frz_agg {vs : List V} {Q : V → Prop} (q : FrzL h b vs fun vs' => Q (.agg vs')) : Frz h b (.agg vs) Q := by
  obtain ⟨n, vs', e, q⟩ := q
  exact ⟨n + 1, _, by simp only [freezeV, e, Option.map_some], q⟩

theorem freezeV_det {n m : Nat} {v a c : V} (e : freezeV h b n v = some a) (e2 : freezeV h b m v = some c) : a = c := by
  have q1 := freezeV_mono (Nat.le_max_left n m) e
  have q2 := freezeV_mono (Nat.le_max_right n m) e2
  rw [q1] at q2
  exact Option.some.inj q2
theorem freezeVs_det {n m : Nat} {v a c : List V} (e : freezeVs h b n v = some a) (e2 : freezeVs h b m v = some c) : a = c := by
  have q1 := freezeVs_mono (Nat.le_max_left n m) e
  have q2 := freezeVs_mono (Nat.le_max_right n m) e2
  rw [q1] at q2
  exact Option.some.inj q2
theorem Frz_sci {v : Value} {Q : V → Prop} : Frz h b (.sc v) Q ↔ Q (.sc v) := ⟨fun ⟨_, _, e, q⟩ => freezeV_det (m := 1) e rfl ▸ q, Frz_sc⟩
theorem Frz_slci {ex : Cp} {sz : Nat} {rs : List (List V)} {Q : V → Prop} : Frz h b (.slc ex sz rs) Q ↔ Q (.slc ex sz rs) := ⟨fun ⟨_, _, e, q⟩ => freezeV_det (m := 1) e rfl ▸ q, Frz_slc⟩
theorem FrzL_nili {Q : List V → Prop} : FrzL h b [] Q ↔ Q [] := ⟨fun ⟨_, _, e, q⟩ => freezeVs_det (m := 1) e rfl ▸ q, FrzL_nil⟩
theorem FrzL_consi {v : V} {vs : List V} {Q : List V → Prop} : FrzL h b (v :: vs) Q ↔ Frz h b v fun v' => FrzL h b vs fun vs' => Q (v' :: vs') := by
  refine ⟨?_, FrzL_cons⟩
  rintro ⟨n, r, e, q⟩
  cases n with
  | zero => simp [freezeVs] at e
  | succ n =>
    simp only [freezeVs, Option.bind_eq_some_iff, Option.map_eq_some_iff] at e
    obtain ⟨a, e1, c, e2, rfl⟩ := e
    exact ⟨n, a, e1, n, c, e2, q⟩
theorem Frz_tupi {vs : List V} {Q : V → Prop} : Frz h b (.tup vs) Q ↔ FrzL h b vs fun vs' => Q (.tup vs') := by
  refine ⟨?_, Frz_tup⟩
  rintro ⟨n, r, e, q⟩
  cases n with
  | zero => simp [freezeV] at e
  | succ n =>
    simp only [freezeV, Option.map_eq_some_iff] at e
    obtain ⟨a, e1, rfl⟩ := e
    exact ⟨n, a, e1, q⟩
theorem Frz_aggi {vs : List V} {Q : V → Prop} : Frz h b (.agg vs) Q ↔ FrzL h b vs fun vs' => Q (.agg vs') := by
  refine ⟨?_, Frz_agg⟩
  rintro ⟨n, r, e, q⟩
  cases n with
  | zero => simp [freezeV] at e
  | succ n =>
    simp only [freezeV, Option.map_eq_some_iff] at e
    obtain ⟨a, e1, rfl⟩ := e
    exact ⟨n, a, e1, q⟩

/-- The end of a function whose results are frozen. -/
def endP (rs : List ARes) (b : Nat) (Q : V → Heap → Prop) (ex : Ex) (en : Env) (h : Heap) : Prop :=
  match ex with
  | .exit _ => False
  | _ => match evRess en h rs with
    | some vs => Frz h b (oneOrTup vs) fun v => Q v (h.take b)
    | none => False
/-- .. of one whose results are not. -/
def endI (rs : List ARes) (Q : V → Heap → Prop) (ex : Ex) (en : Env) (h : Heap) : Prop :=
  match ex with
  | .exit _ => False
  | _ => match evRess en h rs with
    | some vs => Q (oneOrTup vs) h
    | none => False

def resQ (o : Option (List V)) (Q : List V → Prop) : Prop := match o with | some vs => Q vs | none => False
theorem resQ_some {vs : List V} {Q : List V → Prop} : resQ (some vs) Q = Q vs := rfl
theorem endP_ret {rs : List ARes} {Q : V → Heap → Prop} {en : Env} : endP rs b Q .ret en h = resQ (evRess en h rs) fun vs => Frz h b (oneOrTup vs) fun v => Q v (h.take b) := rfl
theorem endP_normal {rs : List ARes} {Q : V → Heap → Prop} {en : Env} : endP rs b Q .normal en h = resQ (evRess en h rs) fun vs => Frz h b (oneOrTup vs) fun v => Q v (h.take b) := rfl
theorem endI_ret {rs : List ARes} {Q : V → Heap → Prop} {en : Env} : endI rs Q .ret en h = resQ (evRess en h rs) fun vs => Q (oneOrTup vs) h := rfl
theorem endI_normal {rs : List ARes} {Q : V → Heap → Prop} {en : Env} : endI rs Q .normal en h = resQ (evRess en h rs) fun vs => Q (oneOrTup vs) h := rfl

theorem WpF_pure {f : FuncId} {A : AFunc} {args : List V} {Q : V → Heap → Prop} (hX : S.X f = none) (hF : S.F f = some A) (hp : A.pure = true) (hl : args.length = A.nparams)
    (hw : WpC S h.length A.body (fun t => args.getD t .undef) h (endP A.results h.length Q)) : WpF S base f args h Q := by
  refine WpF.bodyPure hX hF hp hl (hw.mono ?_)
  intro ex en h' q
  unfold endP at q
  cases ex with
  | exit i => exact q.elim
  | normal =>
    simp only at q
    refine ⟨by simp, ?_⟩
    split at q
    · rename_i vs e
      obtain ⟨n, v', e2, q⟩ := q
      exact ⟨vs, e, n, v', e2, q⟩
    · exact q.elim
  | ret =>
    simp only at q
    refine ⟨by simp, ?_⟩
    split at q
    · rename_i vs e
      obtain ⟨n, v', e2, q⟩ := q
      exact ⟨vs, e, n, v', e2, q⟩
    · exact q.elim

theorem WpF_imp {f : FuncId} {A : AFunc} {args : List V} {Q : V → Heap → Prop} (hX : S.X f = none) (hF : S.F f = some A) (hp : A.pure = false) (hl : args.length = A.nparams)
    (hw : WpC S base A.body (fun t => args.getD t .undef) h (endI A.results Q)) : WpF S base f args h Q := by
  refine WpF.body hX hF hp hl (hw.mono ?_)
  intro ex en h' q
  unfold endI at q
  cases ex with
  | exit i => exact q.elim
  | normal =>
    simp only at q
    refine ⟨by simp, ?_⟩
    split at q
    · rename_i vs e
      exact ⟨vs, e, q⟩
    · exact q.elim
  | ret =>
    simp only at q
    refine ⟨by simp, ?_⟩
    split at q
    · rename_i vs e
      exact ⟨vs, e, q⟩
    · exact q.elim

/-! ### Rules whose way on is data: nothing behind an operation is looked at before its value is known. -/

def opQ (S : Fns) (base : Nat) (x : Option (V × Heap)) (dst : Option Nat) (r : List AOper) (en : Env) (Q : Env → Heap → Prop) : Prop :=
  match x with
  | some (v, h) => WpO S base r (en.put dst v) h Q
  | none => False
def guardQ (S : Fns) (base : Nat) (g : V) (want : Bool) (dst : Option Nat) (op : AOp) (r : List AOper) (en : Env) (h : Heap) (Q : Env → Heap → Prop) : Prop :=
  match gOk g want with
  | some true => WpO S base (⟨dst, op, none, []⟩ :: r) en h Q
  | some false => WpO S base r (en.put dst (.tup [])) h Q
  | none => False
def callD (S : Fns) (base : Nat) (t : Option (FuncId × List V)) (dst : Option Nat) (r : List AOper) (en : Env) (h : Heap) (Q : Env → Heap → Prop) : Prop :=
  match t with
  | some (k, vs) => WpF S base k vs h fun v h1 => WpO S base r (en.put dst v) h1 Q
  | none => False
def thenC (S : Fns) (base : Nat) (b : ACode) (Q : Ex → Env → Heap → Prop) (ex : Ex) (en : Env) (h : Heap) : Prop :=
  match ex with
  | .normal => WpC S base b en h Q
  | ex => Q ex en h
def condQ (S : Fns) (base : Nat) (c : V) (a b : ACode) (en : Env) (h : Heap) (Q : Ex → Env → Heap → Prop) : Prop :=
  match c with
  | .sc (.bool t) => if t = true then WpC S base a en h Q else WpC S base b en h Q
  | _ => False

section
variable {x : Option (V × Heap)} {dst : Option Nat} {r : List AOper} {en : Env} {Q : Env → Heap → Prop} {h : Heap} {v : V}
theorem opQ_some : opQ S base (some (v, h)) dst r en Q = WpO S base r (en.put dst v) h Q := rfl
theorem opQ_none : opQ S base none dst r en Q = False := rfl
theorem WpO_opD {op : AOp} (hn : ∀ f a, op ≠ .call f a) : WpO S base (⟨dst, op, none, []⟩ :: r) en h Q ↔ opQ S base (step base en h op) dst r en Q := by
  rw [WpO_op hn]
  unfold okQ opQ
  rfl
theorem guardQ_tt {op : AOp} : guardQ S base (.sc (.bool true)) true dst op r en h Q = WpO S base (⟨dst, op, none, []⟩ :: r) en h Q := rfl
theorem guardQ_ff {op : AOp} : guardQ S base (.sc (.bool false)) false dst op r en h Q = WpO S base (⟨dst, op, none, []⟩ :: r) en h Q := rfl
theorem guardQ_tf {op : AOp} : guardQ S base (.sc (.bool true)) false dst op r en h Q = WpO S base r (en.put dst (.tup [])) h Q := rfl
theorem guardQ_ft {op : AOp} : guardQ S base (.sc (.bool false)) true dst op r en h Q = WpO S base r (en.put dst (.tup [])) h Q := rfl
theorem guardQ_no {op : AOp} {want : Bool} : guardQ S base (.tup []) want dst op r en h Q = WpO S base r (en.put dst (.tup [])) h Q := rfl
theorem guardQ_b {op : AOp} {t want : Bool} : guardQ S base (.sc (.bool t)) want dst op r en h Q = if t = want then WpO S base (⟨dst, op, none, []⟩ :: r) en h Q else WpO S base r (en.put dst (.tup [])) h Q := by
  cases t <;> cases want <;> rfl
theorem WpO_guardD {op : AOp} {g : Nat} {want : Bool} : WpO S base (⟨dst, op, some (g, want), []⟩ :: r) en h Q ↔ guardQ S base (en g) want dst op r en h Q := by
  rw [WpO_guard]
  rfl
theorem callD_some {k : FuncId} {vs : List V} : callD S base (some (k, vs)) dst r en h Q = WpF S base k vs h fun v h1 => WpO S base r (en.put dst v) h1 Q := rfl
theorem WpO_callD {f : Opd} {args : List Opd} : WpO S base (⟨dst, .call f args, none, []⟩ :: r) en h Q ↔ callD S base (target (f.get en) (getsO en args)) dst r en h Q := by
  rw [WpO_call]
  unfold callQ callD
  rfl
/-- A call whose end is known. -/
theorem callD_ret {k : FuncId} {vs : List V} {h0 : Heap} {v0 : V} (hw : WpF S base k vs h fun v h' => v = v0 ∧ h' = h0) : callD S base (some (k, vs)) dst r en h Q ↔ WpO S base r (en.put dst v0) h0 Q := WpF_iff hw
end
section
variable {a b : ACode} {en : Env} {h : Heap} {Q : Ex → Env → Heap → Prop}
theorem thenC_normal : thenC S base b Q .normal en h = WpC S base b en h Q := rfl
theorem thenC_ret : thenC S base b Q .ret en h = Q .ret en h := rfl
theorem thenC_exit {i : Nat} : thenC S base b Q (.exit i) en h = Q (.exit i) en h := rfl
theorem WpC_seqD : WpC S base (.seq a b) en h Q ↔ WpC S base a en h (thenC S base b Q) := WpC_seq.trans (by
  have : thenQ (fun en h => WpC S base b en h Q) Q = thenC S base b Q := by
    funext ex en h
    cases ex <;> rfl
  rw [this])
theorem condQ_true : condQ S base (.sc (.bool true)) a b en h Q = WpC S base a en h Q := rfl
theorem condQ_false : condQ S base (.sc (.bool false)) a b en h Q = WpC S base b en h Q := rfl
theorem condQ_bool {t : Bool} : condQ S base (.sc (.bool t)) a b en h Q = if t = true then WpC S base a en h Q else WpC S base b en h Q := rfl
theorem WpC_condD {c : Opd} : WpC S base (.cond c a b) en h Q ↔ condQ S base (c.get en) a b en h Q := by
  rw [WpC_condI]
  unfold boolQ condQ
  rfl
end
end
section
variable {S : Fns} {base : Nat}
/-- A read that is to keep off what is written. -/
theorem WpO_keepD {dst : Option Nat} {op : AOp} {t : Nat} {ts : List Nat} {r : List AOper} {en : Env} {h : Heap} {Q : Env → Heap → Prop} : WpO S base (⟨dst, op, none, t :: ts⟩ :: r) en h Q ↔ if offOk en ⟨dst, op, none, t :: ts⟩ = true then WpO S base (⟨dst, op, none, []⟩ :: r) en h Q else False := by
  by_cases ho : offOk en ⟨dst, op, none, t :: ts⟩ = true
  · rw [if_pos ho]
    refine ⟨?_, WpO.keep ho⟩
    rintro ⟨n, en', h', e, q⟩
    refine ⟨n, en', h', ?_, q⟩
    rw [evOps_cons] at e ⊢
    have hev : evOper (evCall S.X S.F n) base en h ⟨dst, op, none, t :: ts⟩ = evOper (evCall S.X S.F n) base en h ⟨dst, op, none, []⟩ := by
      unfold evOper
      rw [ho]
      rfl
    have : evVal (evCall S.X S.F n) base ⟨dst, op, none, t :: ts⟩ en h = evVal (evCall S.X S.F n) base ⟨dst, op, none, []⟩ en h := by
      simp only [evVal, hev]
    rw [← this]
    exact e
  · rw [if_neg ho, iff_false]
    rintro ⟨n, en', h', e, q⟩
    rw [evOps_cons] at e
    have : evVal (evCall S.X S.F n) base ⟨dst, op, none, t :: ts⟩ en h = none := by
      simp only [evVal, evOper, ho, Bool.false_eq_true, if_false]
    rw [this] at e
    simp at e
/-- What a call comes to, known up to some value. -/
theorem WpF.ex {α : Type} {k : FuncId} {vs : List V} {h : Heap} {P : α → V → Heap → Prop} (hw : WpF S base k vs h fun v h' => ∃ a, P a v h') : ∃ a, WpF S base k vs h (P a) :=
  let ⟨n, v, h', e, a, p⟩ := hw
  ⟨a, n, v, h', e, p⟩
end

def blkNe (v : V) (b : Nat) : Bool := blockOf v != some b
def offV (v : V) (l : List Opd) (en : Env) : Bool := match blockOf v with | some b => l.all fun x => blkNe (x.get en) b | none => false
theorem WpO_keep1 {S : Fns} {base : Nat} {dst : Option Nat} {op : AOp} {t : Nat} {r : List AOper} {en : Env} {h : Heap} {Q : Env → Heap → Prop} : WpO S base (⟨dst, op, none, [t]⟩ :: r) en h Q ↔ if offV (en t) op.opds en = true then WpO S base (⟨dst, op, none, []⟩ :: r) en h Q else False := by
  rw [WpO_keepD]
  have : offOk en ⟨dst, op, none, [t]⟩ = offV (en t) op.opds en := by
    simp only [offOk, List.all_cons, List.all_nil, Bool.and_true]
    rfl
  rw [this]
theorem offV_ptr {b o : Nat} {x : Opd} {l : List Opd} {en : Env} : offV (.ptr b o) (x :: l) en = (blkNe (x.get en) b && offV (.ptr b o) l en) := rfl
theorem offV_nil {b o : Nat} {en : Env} : offV (.ptr b o) [] en = true := rfl
theorem blkNe_ptr {b c o : Nat} : blkNe (.ptr c o) b = (c != b) := rfl
theorem blkNe_sc {b : Nat} {v : Value} : blkNe (.sc v) b = true := rfl
theorem blkNe_slc {b sz : Nat} {ex : Cp} {rs : List (List V)} : blkNe (.slc ex sz rs) b = true := rfl
theorem blkNe_eptr {b o : Nat} {cs : List V} : blkNe (.eptr cs o) b = true := rfl
theorem blkNe_agg {b : Nat} {cs : List V} : blkNe (.agg cs) b = true := rfl
theorem blkNe_hsl {b c e off len : Nat} : blkNe (.hsl c e off len) b = (c != b) := rfl
theorem Frz_ifci {h : Heap} {b : Nat} {t : TypeId} {v : Value} {Q : V → Prop} : Frz h b (.ifc t (.sc v)) Q ↔ Q (.ifc t (.sc v)) := ⟨fun ⟨_, _, e, q⟩ => freezeV_det (m := 1) e rfl ▸ q, fun q => ⟨1, _, rfl, q⟩⟩
theorem last_get (h : Heap) (o : Obj) : (h ++ [o])[h.length]? = some o := by simp
theorem last_set (h : Heap) (o p : Obj) : (h ++ [o]).set h.length p = h ++ [p] := by simp
theorem last_take (h l : Heap) : (h ++ l).take h.length = h := by simp
/-- A variable, stored into. -/
theorem store_box {base b off n : Nat} {h : Heap} {t : TypeId} {cs : List V} {x : V} (hb : h[b]? = some (.box t cs)) (hx : x.cells.length = n) (h1 : x.cells.all oneCell = true) (ho : off + n ≤ cs.length) (hm : mayStore base b x.cells = true) :
    storeV base h n (.ptr b off) x = some (h.set b (.box t (putCells cs off x.cells))) := by
  unfold storeV
  simp only [hx, h1, and_self, if_true, hb, ho, hm]
end Go.Am
end
section
/- Am: letters, digits, words and names. -/
set_option linter.unusedSimpArgs false
namespace Go.Am

def letterB (n : Int) : Bool := decide ((97 ≤ n ∧ n ≤ 122) ∨ (65 ≤ n ∧ n ≤ 90) ∨ n = 95)
def digitB (n : Int) : Bool := decide (48 ≤ n ∧ n ≤ 57)

theorem letter_r {base : Nat} (n : Int) (h : Heap) : WpF S0 base k_lex_letter [.sc (.int .u8 n)] h fun v h' => v = .bool (letterB n) ∧ h' = h := by
  refine WpF_pure (A := f_lex_letter) rfl rfl rfl rfl ?_
  simp only [f_lex_letter]
  by_cases h1 : 97 ≤ n <;> by_cases h2 : n ≤ 122 <;> by_cases h3 : 65 ≤ n <;> by_cases h4 : n ≤ 90 <;> by_cases h5 : n = 95 <;> simp only [WpC_skip, WpC_ret, WpC_exit, WpC_region, WpC_seqD, WpC_block, WpC_condD, thenC_normal, thenC_ret, thenC_exit, thenQ_normal, thenQ_ret, thenQ_exit, condQ_true, condQ_false, condQ_bool, opQ_some, opQ_none, guardQ_tt, guardQ_tf, guardQ_ft, guardQ_ff, guardQ_no, blockQ_normal, blockQ_ret, blockQ_exit, endP_ret, endP_normal, endI_ret, endI_normal, resQ_some, Frz_sci, Frz_slci, FrzL_nili, FrzL_consi, Frz_tupi, Frz_aggi, Frz_ifci, oneCell, WpO_keep1, offV_ptr, offV_nil, blkNe_ptr, blkNe_sc, blkNe_slc, blkNe_eptr, blkNe_agg, blkNe_hsl, AOp.opds, Nat.reduceAdd, WpO_opD, WpO_nil, WpO_callD, WpO_guardD, step, Opd.get, put_app, put_none, ne_eq, reduceCtorEq, not_false_eq_true, not_true_eq_false, implies_true, slcLen, Option.map_some, Option.map_none, Option.bind_some, Option.bind_none, bin, binInt, reduceIte, Nat.reduceEqDiff, List.getD_cons_zero, List.getD_cons_succ, IntKind.signed, indexV, asNat?, loadV, cutCells, unary, evRess, evRes1, oneOrTup, wrapV, target, getsO, List.nil_append, List.append_nil, List.cons_append, Bool.false_eq_true, Bool.true_eq_false, decide_eq_true_eq, Bool.not_eq_true', decide_eq_false_iff_not, Bool.not_true, Bool.not_false, List.take_length, and_true, true_and, Int.ofNat_lt, Int.ofNat_le, Int.natCast_nonneg, Int.toNat_natCast, ge_iff_le, gt_iff_lt, if_true, if_false, List.length_map, decide_true, decide_false, int_beq, int_bne, bne_iff_ne, beq_iff_eq, Int.natCast_inj, Bool.and_eq_true, decide_not, Decidable.not_not, boundO, sliceV, exTo, Nat.zero_le, Nat.le_refl, Bool.or_true, beq_self_eq_true, Option.getD_some, Option.getD_none, List.drop_zero, Nat.sub_zero, and_self, or_true, true_or, or_self, false_or, or_false, and_false, false_and, Cp.isFull, isNil, moveV, Nat.add_zero, Nat.zero_add, Int.reduceLE, Int.reduceLT, Int.reduceEq, Int.reduceBEq, Int.reduceGT, Int.reduceGE, Nat.reduceLT, Nat.reduceLeDiff, h1, h2, h3, h4, h5] <;> simp [letterB, h1, h2, h3, h4, h5]

theorem alpha_r {base : Nat} (n : Int) (h : Heap) : WpF S0 base k_spinnakerref22_alpha [.sc (.int .u8 n)] h fun v h' => v = .bool (letterB n) ∧ h' = h := by
  refine WpF_pure (A := f_spinnakerref22_alpha) rfl rfl rfl rfl ?_
  simp only [f_spinnakerref22_alpha]
  by_cases h1 : 97 ≤ n <;> by_cases h2 : n ≤ 122 <;> by_cases h3 : 65 ≤ n <;> by_cases h4 : n ≤ 90 <;> by_cases h5 : n = 95 <;> simp only [WpC_skip, WpC_ret, WpC_exit, WpC_region, WpC_seqD, WpC_block, WpC_condD, thenC_normal, thenC_ret, thenC_exit, thenQ_normal, thenQ_ret, thenQ_exit, condQ_true, condQ_false, condQ_bool, opQ_some, opQ_none, guardQ_tt, guardQ_tf, guardQ_ft, guardQ_ff, guardQ_no, blockQ_normal, blockQ_ret, blockQ_exit, endP_ret, endP_normal, endI_ret, endI_normal, resQ_some, Frz_sci, Frz_slci, FrzL_nili, FrzL_consi, Frz_tupi, Frz_aggi, Frz_ifci, oneCell, WpO_keep1, offV_ptr, offV_nil, blkNe_ptr, blkNe_sc, blkNe_slc, blkNe_eptr, blkNe_agg, blkNe_hsl, AOp.opds, Nat.reduceAdd, WpO_opD, WpO_nil, WpO_callD, WpO_guardD, step, Opd.get, put_app, put_none, ne_eq, reduceCtorEq, not_false_eq_true, not_true_eq_false, implies_true, slcLen, Option.map_some, Option.map_none, Option.bind_some, Option.bind_none, bin, binInt, reduceIte, Nat.reduceEqDiff, List.getD_cons_zero, List.getD_cons_succ, IntKind.signed, indexV, asNat?, loadV, cutCells, unary, evRess, evRes1, oneOrTup, wrapV, target, getsO, List.nil_append, List.append_nil, List.cons_append, Bool.false_eq_true, Bool.true_eq_false, decide_eq_true_eq, Bool.not_eq_true', decide_eq_false_iff_not, Bool.not_true, Bool.not_false, List.take_length, and_true, true_and, Int.ofNat_lt, Int.ofNat_le, Int.natCast_nonneg, Int.toNat_natCast, ge_iff_le, gt_iff_lt, if_true, if_false, List.length_map, decide_true, decide_false, int_beq, int_bne, bne_iff_ne, beq_iff_eq, Int.natCast_inj, Bool.and_eq_true, decide_not, Decidable.not_not, boundO, sliceV, exTo, Nat.zero_le, Nat.le_refl, Bool.or_true, beq_self_eq_true, Option.getD_some, Option.getD_none, List.drop_zero, Nat.sub_zero, and_self, or_true, true_or, or_self, false_or, or_false, and_false, false_and, Cp.isFull, isNil, moveV, Nat.add_zero, Nat.zero_add, Int.reduceLE, Int.reduceLT, Int.reduceEq, Int.reduceBEq, Int.reduceGT, Int.reduceGE, Nat.reduceLT, Nat.reduceLeDiff, h1, h2, h3, h4, h5] <;> simp [letterB, h1, h2, h3, h4, h5]

theorem digit_r {base : Nat} (n : Int) (h : Heap) : WpF S0 base k_lex_digit [.sc (.int .u8 n)] h fun v h' => v = .bool (digitB n) ∧ h' = h := by
  refine WpF_pure (A := f_lex_digit) rfl rfl rfl rfl ?_
  simp only [f_lex_digit]
  by_cases h1 : 48 ≤ n <;> by_cases h2 : n ≤ 57 <;> simp only [WpC_skip, WpC_ret, WpC_exit, WpC_region, WpC_seqD, WpC_block, WpC_condD, thenC_normal, thenC_ret, thenC_exit, thenQ_normal, thenQ_ret, thenQ_exit, condQ_true, condQ_false, condQ_bool, opQ_some, opQ_none, guardQ_tt, guardQ_tf, guardQ_ft, guardQ_ff, guardQ_no, blockQ_normal, blockQ_ret, blockQ_exit, endP_ret, endP_normal, endI_ret, endI_normal, resQ_some, Frz_sci, Frz_slci, FrzL_nili, FrzL_consi, Frz_tupi, Frz_aggi, Frz_ifci, oneCell, WpO_keep1, offV_ptr, offV_nil, blkNe_ptr, blkNe_sc, blkNe_slc, blkNe_eptr, blkNe_agg, blkNe_hsl, AOp.opds, Nat.reduceAdd, WpO_opD, WpO_nil, WpO_callD, WpO_guardD, step, Opd.get, put_app, put_none, ne_eq, reduceCtorEq, not_false_eq_true, not_true_eq_false, implies_true, slcLen, Option.map_some, Option.map_none, Option.bind_some, Option.bind_none, bin, binInt, reduceIte, Nat.reduceEqDiff, List.getD_cons_zero, List.getD_cons_succ, IntKind.signed, indexV, asNat?, loadV, cutCells, unary, evRess, evRes1, oneOrTup, wrapV, target, getsO, List.nil_append, List.append_nil, List.cons_append, Bool.false_eq_true, Bool.true_eq_false, decide_eq_true_eq, Bool.not_eq_true', decide_eq_false_iff_not, Bool.not_true, Bool.not_false, List.take_length, and_true, true_and, Int.ofNat_lt, Int.ofNat_le, Int.natCast_nonneg, Int.toNat_natCast, ge_iff_le, gt_iff_lt, if_true, if_false, List.length_map, decide_true, decide_false, int_beq, int_bne, bne_iff_ne, beq_iff_eq, Int.natCast_inj, Bool.and_eq_true, decide_not, Decidable.not_not, boundO, sliceV, exTo, Nat.zero_le, Nat.le_refl, Bool.or_true, beq_self_eq_true, Option.getD_some, Option.getD_none, List.drop_zero, Nat.sub_zero, and_self, or_true, true_or, or_self, false_or, or_false, and_false, false_and, Cp.isFull, isNil, moveV, Nat.add_zero, Nat.zero_add, Int.reduceLE, Int.reduceLT, Int.reduceEq, Int.reduceBEq, Int.reduceGT, Int.reduceGE, Nat.reduceLT, Nat.reduceLeDiff, h1, h2] <;> simp [digitB, h1, h2]

theorem num_r {base : Nat} (n : Int) (h : Heap) : WpF S0 base k_spinnakerref22_num [.sc (.int .u8 n)] h fun v h' => v = .bool (digitB n) ∧ h' = h := by
  refine WpF_pure (A := f_spinnakerref22_num) rfl rfl rfl rfl ?_
  simp only [f_spinnakerref22_num]
  by_cases h1 : 48 ≤ n <;> by_cases h2 : n ≤ 57 <;> simp only [WpC_skip, WpC_ret, WpC_exit, WpC_region, WpC_seqD, WpC_block, WpC_condD, thenC_normal, thenC_ret, thenC_exit, thenQ_normal, thenQ_ret, thenQ_exit, condQ_true, condQ_false, condQ_bool, opQ_some, opQ_none, guardQ_tt, guardQ_tf, guardQ_ft, guardQ_ff, guardQ_no, blockQ_normal, blockQ_ret, blockQ_exit, endP_ret, endP_normal, endI_ret, endI_normal, resQ_some, Frz_sci, Frz_slci, FrzL_nili, FrzL_consi, Frz_tupi, Frz_aggi, Frz_ifci, oneCell, WpO_keep1, offV_ptr, offV_nil, blkNe_ptr, blkNe_sc, blkNe_slc, blkNe_eptr, blkNe_agg, blkNe_hsl, AOp.opds, Nat.reduceAdd, WpO_opD, WpO_nil, WpO_callD, WpO_guardD, step, Opd.get, put_app, put_none, ne_eq, reduceCtorEq, not_false_eq_true, not_true_eq_false, implies_true, slcLen, Option.map_some, Option.map_none, Option.bind_some, Option.bind_none, bin, binInt, reduceIte, Nat.reduceEqDiff, List.getD_cons_zero, List.getD_cons_succ, IntKind.signed, indexV, asNat?, loadV, cutCells, unary, evRess, evRes1, oneOrTup, wrapV, target, getsO, List.nil_append, List.append_nil, List.cons_append, Bool.false_eq_true, Bool.true_eq_false, decide_eq_true_eq, Bool.not_eq_true', decide_eq_false_iff_not, Bool.not_true, Bool.not_false, List.take_length, and_true, true_and, Int.ofNat_lt, Int.ofNat_le, Int.natCast_nonneg, Int.toNat_natCast, ge_iff_le, gt_iff_lt, if_true, if_false, List.length_map, decide_true, decide_false, int_beq, int_bne, bne_iff_ne, beq_iff_eq, Int.natCast_inj, Bool.and_eq_true, decide_not, Decidable.not_not, boundO, sliceV, exTo, Nat.zero_le, Nat.le_refl, Bool.or_true, beq_self_eq_true, Option.getD_some, Option.getD_none, List.drop_zero, Nat.sub_zero, and_self, or_true, true_or, or_self, false_or, or_false, and_false, false_and, Cp.isFull, isNil, moveV, Nat.add_zero, Nat.zero_add, Int.reduceLE, Int.reduceLT, Int.reduceEq, Int.reduceBEq, Int.reduceGT, Int.reduceGE, Nat.reduceLT, Nat.reduceLeDiff, h1, h2] <;> simp [digitB, h1, h2]

theorem either_r {base : Nat} (n : Int) (h : Heap) : WpF S0 base k_lex_either [.sc (.int .u8 n)] h fun v h' => v = .bool (letterB n || digitB n) ∧ h' = h := by
  refine WpF_pure (A := f_lex_either) rfl rfl rfl rfl ?_
  simp only [f_lex_either]
  cases h1 : letterB n <;> simp only [WpC_skip, WpC_ret, WpC_exit, WpC_region, WpC_seqD, WpC_block, WpC_condD, thenC_normal, thenC_ret, thenC_exit, thenQ_normal, thenQ_ret, thenQ_exit, condQ_true, condQ_false, condQ_bool, opQ_some, opQ_none, guardQ_tt, guardQ_tf, guardQ_ft, guardQ_ff, guardQ_no, blockQ_normal, blockQ_ret, blockQ_exit, endP_ret, endP_normal, endI_ret, endI_normal, resQ_some, Frz_sci, Frz_slci, FrzL_nili, FrzL_consi, Frz_tupi, Frz_aggi, Frz_ifci, oneCell, WpO_keep1, offV_ptr, offV_nil, blkNe_ptr, blkNe_sc, blkNe_slc, blkNe_eptr, blkNe_agg, blkNe_hsl, AOp.opds, Nat.reduceAdd, WpO_opD, WpO_nil, WpO_callD, WpO_guardD, step, Opd.get, put_app, put_none, ne_eq, reduceCtorEq, not_false_eq_true, not_true_eq_false, implies_true, slcLen, Option.map_some, Option.map_none, Option.bind_some, Option.bind_none, bin, binInt, reduceIte, Nat.reduceEqDiff, List.getD_cons_zero, List.getD_cons_succ, IntKind.signed, indexV, asNat?, loadV, cutCells, unary, evRess, evRes1, oneOrTup, wrapV, target, getsO, List.nil_append, List.append_nil, List.cons_append, Bool.false_eq_true, Bool.true_eq_false, decide_eq_true_eq, Bool.not_eq_true', decide_eq_false_iff_not, Bool.not_true, Bool.not_false, List.take_length, and_true, true_and, Int.ofNat_lt, Int.ofNat_le, Int.natCast_nonneg, Int.toNat_natCast, ge_iff_le, gt_iff_lt, if_true, if_false, List.length_map, decide_true, decide_false, int_beq, int_bne, bne_iff_ne, beq_iff_eq, Int.natCast_inj, Bool.and_eq_true, decide_not, Decidable.not_not, boundO, sliceV, exTo, Nat.zero_le, Nat.le_refl, Bool.or_true, beq_self_eq_true, Option.getD_some, Option.getD_none, List.drop_zero, Nat.sub_zero, and_self, or_true, true_or, or_self, false_or, or_false, and_false, false_and, Cp.isFull, isNil, moveV, Nat.add_zero, Nat.zero_add, Int.reduceLE, Int.reduceLT, Int.reduceEq, Int.reduceBEq, Int.reduceGT, Int.reduceGE, Nat.reduceLT, Nat.reduceLeDiff, callD_ret (letter_r _ _), callD_ret (digit_r _ _), h1, Bool.false_or, Bool.true_or]

/-! ### Lists of texts -/

abbrev sv (s : ByteArray) : List V := [.sc (.string s)]
/-- Is a text among some? -/
def inB (l : List ByteArray) (s : ByteArray) : Bool := l.any fun x => x.toList == s.toList

theorem beq_symm_list (a b : List UInt8) : (a == b) = (b == a) := by
  by_cases h : a = b
  · rw [h]
  · rw [beq_eq_false_iff_ne.2 h, beq_eq_false_iff_ne.2 (Ne.symm h)]

theorem in_r {base : Nat} (l : List ByteArray) (s : ByteArray) (ex : Cp) (h : Heap) (hl : l.length < 2 ^ 63) : WpF S0 base k_spinnakerref22_In [.slc ex 1 (l.map sv), .sc (.string s)] h fun v h' => v = .bool (inB l s) ∧ h' = h := by
  refine WpF_pure (A := f_spinnakerref22_In) rfl rfl rfl rfl ?_
  simp only [f_spinnakerref22_In]
  simp only [WpC_skip, WpC_ret, WpC_exit, WpC_region, WpC_seqD, WpC_block, WpC_condD, thenC_normal, thenC_ret, thenC_exit, thenQ_normal, thenQ_ret, thenQ_exit, condQ_true, condQ_false, condQ_bool, opQ_some, opQ_none, guardQ_tt, guardQ_tf, guardQ_ft, guardQ_ff, guardQ_no, blockQ_normal, blockQ_ret, blockQ_exit, endP_ret, endP_normal, endI_ret, endI_normal, resQ_some, Frz_sci, Frz_slci, FrzL_nili, FrzL_consi, Frz_tupi, Frz_aggi, Frz_ifci, oneCell, WpO_keep1, offV_ptr, offV_nil, blkNe_ptr, blkNe_sc, blkNe_slc, blkNe_eptr, blkNe_agg, blkNe_hsl, AOp.opds, Nat.reduceAdd, WpO_opD, WpO_nil, WpO_callD, WpO_guardD, step, Opd.get, put_app, put_none, ne_eq, reduceCtorEq, not_false_eq_true, not_true_eq_false, implies_true, slcLen, Option.map_some, Option.map_none, Option.bind_some, Option.bind_none, bin, binInt, reduceIte, Nat.reduceEqDiff, List.getD_cons_zero, List.getD_cons_succ, IntKind.signed, indexV, asNat?, loadV, cutCells, unary, evRess, evRes1, oneOrTup, wrapV, target, getsO, List.nil_append, List.append_nil, List.cons_append, Bool.false_eq_true, Bool.true_eq_false, decide_eq_true_eq, Bool.not_eq_true', decide_eq_false_iff_not, Bool.not_true, Bool.not_false, List.take_length, and_true, true_and, Int.ofNat_lt, Int.ofNat_le, Int.natCast_nonneg, Int.toNat_natCast, ge_iff_le, gt_iff_lt, if_true, if_false, List.length_map, decide_true, decide_false, int_beq, int_bne, bne_iff_ne, beq_iff_eq, Int.natCast_inj, Bool.and_eq_true, decide_not, Decidable.not_not, boundO, sliceV, exTo, Nat.zero_le, Nat.le_refl, Bool.or_true, beq_self_eq_true, Option.getD_some, Option.getD_none, List.drop_zero, Nat.sub_zero, and_self, or_true, true_or, or_self, false_or, or_false, and_false, false_and, Cp.isFull, isNil, moveV, Nat.add_zero, Nat.zero_add, Int.reduceLE, Int.reduceLT, Int.reduceEq, Int.reduceBEq, Int.reduceGT, Int.reduceGE, Nat.reduceLT, Nat.reduceLeDiff]
  refine WpC_loopI (fun k en h' => ∃ i : Nat, k = l.length - i ∧ i ≤ l.length ∧ en 5 = V.int i ∧ en 0 = .slc ex 1 (l.map sv) ∧ en 1 = .sc (.string s) ∧ inB (l.take i) s = false ∧ h' = h) l.length ⟨0, rfl, Nat.zero_le _, rfl, rfl, rfl, rfl, rfl⟩ ?_
  rintro k en h' ⟨i, rfl, hi, e5, e0, e1, hno, rfl⟩
  by_cases h1 : i < l.length
  · have hg : (l.map sv)[i]? = some (sv l[i]) := by simp [List.getElem?_map, h1]
    have htk : l.take (i + 1) = l.take i ++ [l[i]] := by rw [List.take_add_one, List.getElem?_eq_getElem h1]; rfl
    cases h2 : (l[i].toList == s.toList)
    · simp only [WpC_skip, WpC_ret, WpC_exit, WpC_region, WpC_seqD, WpC_block, WpC_condD, thenC_normal, thenC_ret, thenC_exit, thenQ_normal, thenQ_ret, thenQ_exit, condQ_true, condQ_false, condQ_bool, opQ_some, opQ_none, guardQ_tt, guardQ_tf, guardQ_ft, guardQ_ff, guardQ_no, blockQ_normal, blockQ_ret, blockQ_exit, endP_ret, endP_normal, endI_ret, endI_normal, resQ_some, Frz_sci, Frz_slci, FrzL_nili, FrzL_consi, Frz_tupi, Frz_aggi, Frz_ifci, oneCell, WpO_keep1, offV_ptr, offV_nil, blkNe_ptr, blkNe_sc, blkNe_slc, blkNe_eptr, blkNe_agg, blkNe_hsl, AOp.opds, Nat.reduceAdd, WpO_opD, WpO_nil, WpO_callD, WpO_guardD, step, Opd.get, put_app, put_none, ne_eq, reduceCtorEq, not_false_eq_true, not_true_eq_false, implies_true, slcLen, Option.map_some, Option.map_none, Option.bind_some, Option.bind_none, bin, binInt, reduceIte, Nat.reduceEqDiff, List.getD_cons_zero, List.getD_cons_succ, IntKind.signed, indexV, asNat?, loadV, cutCells, unary, evRess, evRes1, oneOrTup, wrapV, target, getsO, List.nil_append, List.append_nil, List.cons_append, Bool.false_eq_true, Bool.true_eq_false, decide_eq_true_eq, Bool.not_eq_true', decide_eq_false_iff_not, Bool.not_true, Bool.not_false, List.take_length, and_true, true_and, Int.ofNat_lt, Int.ofNat_le, Int.natCast_nonneg, Int.toNat_natCast, ge_iff_le, gt_iff_lt, if_true, if_false, List.length_map, decide_true, decide_false, int_beq, int_bne, bne_iff_ne, beq_iff_eq, Int.natCast_inj, Bool.and_eq_true, decide_not, Decidable.not_not, boundO, sliceV, exTo, Nat.zero_le, Nat.le_refl, Bool.or_true, beq_self_eq_true, Option.getD_some, Option.getD_none, List.drop_zero, Nat.sub_zero, and_self, or_true, true_or, or_self, false_or, or_false, and_false, false_and, Cp.isFull, isNil, moveV, Nat.add_zero, Nat.zero_add, Int.reduceLE, Int.reduceLT, Int.reduceEq, Int.reduceBEq, Int.reduceGT, Int.reduceGE, Nat.reduceLT, Nat.reduceLeDiff, e5, e0, e1, h1, hg, List.getElem?_cons_zero, binStr, h2]
      refine ⟨l.length - (i + 1), by omega, i + 1, rfl, by omega, by rw [wrap_i64 (by omega) (by omega)]; rfl, ?_⟩
      rw [htk]
      unfold inB at hno ⊢
      rw [List.any_append, hno]
      simp [h2]
    · simp only [WpC_skip, WpC_ret, WpC_exit, WpC_region, WpC_seqD, WpC_block, WpC_condD, thenC_normal, thenC_ret, thenC_exit, thenQ_normal, thenQ_ret, thenQ_exit, condQ_true, condQ_false, condQ_bool, opQ_some, opQ_none, guardQ_tt, guardQ_tf, guardQ_ft, guardQ_ff, guardQ_no, blockQ_normal, blockQ_ret, blockQ_exit, endP_ret, endP_normal, endI_ret, endI_normal, resQ_some, Frz_sci, Frz_slci, FrzL_nili, FrzL_consi, Frz_tupi, Frz_aggi, Frz_ifci, oneCell, WpO_keep1, offV_ptr, offV_nil, blkNe_ptr, blkNe_sc, blkNe_slc, blkNe_eptr, blkNe_agg, blkNe_hsl, AOp.opds, Nat.reduceAdd, WpO_opD, WpO_nil, WpO_callD, WpO_guardD, step, Opd.get, put_app, put_none, ne_eq, reduceCtorEq, not_false_eq_true, not_true_eq_false, implies_true, slcLen, Option.map_some, Option.map_none, Option.bind_some, Option.bind_none, bin, binInt, reduceIte, Nat.reduceEqDiff, List.getD_cons_zero, List.getD_cons_succ, IntKind.signed, indexV, asNat?, loadV, cutCells, unary, evRess, evRes1, oneOrTup, wrapV, target, getsO, List.nil_append, List.append_nil, List.cons_append, Bool.false_eq_true, Bool.true_eq_false, decide_eq_true_eq, Bool.not_eq_true', decide_eq_false_iff_not, Bool.not_true, Bool.not_false, List.take_length, and_true, true_and, Int.ofNat_lt, Int.ofNat_le, Int.natCast_nonneg, Int.toNat_natCast, ge_iff_le, gt_iff_lt, if_true, if_false, List.length_map, decide_true, decide_false, int_beq, int_bne, bne_iff_ne, beq_iff_eq, Int.natCast_inj, Bool.and_eq_true, decide_not, Decidable.not_not, boundO, sliceV, exTo, Nat.zero_le, Nat.le_refl, Bool.or_true, beq_self_eq_true, Option.getD_some, Option.getD_none, List.drop_zero, Nat.sub_zero, and_self, or_true, true_or, or_self, false_or, or_false, and_false, false_and, Cp.isFull, isNil, moveV, Nat.add_zero, Nat.zero_add, Int.reduceLE, Int.reduceLT, Int.reduceEq, Int.reduceBEq, Int.reduceGT, Int.reduceGE, Nat.reduceLT, Nat.reduceLeDiff, e5, e0, e1, h1, hg, List.getElem?_cons_zero, binStr, h2]
      have : inB l s = true := by
        unfold inB
        rw [List.any_eq_true]
        exact ⟨l[i], List.getElem_mem h1, h2⟩
      rw [this]
  · simp only [WpC_skip, WpC_ret, WpC_exit, WpC_region, WpC_seqD, WpC_block, WpC_condD, thenC_normal, thenC_ret, thenC_exit, thenQ_normal, thenQ_ret, thenQ_exit, condQ_true, condQ_false, condQ_bool, opQ_some, opQ_none, guardQ_tt, guardQ_tf, guardQ_ft, guardQ_ff, guardQ_no, blockQ_normal, blockQ_ret, blockQ_exit, endP_ret, endP_normal, endI_ret, endI_normal, resQ_some, Frz_sci, Frz_slci, FrzL_nili, FrzL_consi, Frz_tupi, Frz_aggi, Frz_ifci, oneCell, WpO_keep1, offV_ptr, offV_nil, blkNe_ptr, blkNe_sc, blkNe_slc, blkNe_eptr, blkNe_agg, blkNe_hsl, AOp.opds, Nat.reduceAdd, WpO_opD, WpO_nil, WpO_callD, WpO_guardD, step, Opd.get, put_app, put_none, ne_eq, reduceCtorEq, not_false_eq_true, not_true_eq_false, implies_true, slcLen, Option.map_some, Option.map_none, Option.bind_some, Option.bind_none, bin, binInt, reduceIte, Nat.reduceEqDiff, List.getD_cons_zero, List.getD_cons_succ, IntKind.signed, indexV, asNat?, loadV, cutCells, unary, evRess, evRes1, oneOrTup, wrapV, target, getsO, List.nil_append, List.append_nil, List.cons_append, Bool.false_eq_true, Bool.true_eq_false, decide_eq_true_eq, Bool.not_eq_true', decide_eq_false_iff_not, Bool.not_true, Bool.not_false, List.take_length, and_true, true_and, Int.ofNat_lt, Int.ofNat_le, Int.natCast_nonneg, Int.toNat_natCast, ge_iff_le, gt_iff_lt, if_true, if_false, List.length_map, decide_true, decide_false, int_beq, int_bne, bne_iff_ne, beq_iff_eq, Int.natCast_inj, Bool.and_eq_true, decide_not, Decidable.not_not, boundO, sliceV, exTo, Nat.zero_le, Nat.le_refl, Bool.or_true, beq_self_eq_true, Option.getD_some, Option.getD_none, List.drop_zero, Nat.sub_zero, and_self, or_true, true_or, or_self, false_or, or_false, and_false, false_and, Cp.isFull, isNil, moveV, Nat.add_zero, Nat.zero_add, Int.reduceLE, Int.reduceLT, Int.reduceEq, Int.reduceBEq, Int.reduceGT, Int.reduceGE, Nat.reduceLT, Nat.reduceLeDiff, e5, e0, h1]
    have : l.take i = l := List.take_of_length_le (by omega)
    rw [this] at hno
    rw [hno]
end Go.Am
end
section
/- Am: words and names; the plain law of LexNames. -/
set_option linter.unusedSimpArgs false
namespace Go.Am

def wordsL : List ByteArray := [⟨#[99, 101, 108, 108]⟩, ⟨#[112, 114, 111, 99]⟩, ⟨#[116, 104, 114, 101, 97, 100]⟩, ⟨#[118, 97, 114]⟩, ⟨#[97, 114, 114, 97, 121]⟩, ⟨#[108, 111, 97, 100]⟩, ⟨#[115, 116, 111, 114, 101]⟩, ⟨#[115, 119, 97, 112]⟩, ⟨#[97, 100, 100]⟩, ⟨#[97, 110, 100]⟩, ⟨#[111, 114]⟩, ⟨#[120, 111, 114]⟩, ⟨#[109, 105, 110]⟩, ⟨#[109, 97, 120]⟩, ⟨#[99, 97, 115]⟩, ⟨#[102, 101, 110, 99, 101]⟩, ⟨#[105, 102]⟩, ⟨#[101, 108, 115, 101]⟩, ⟨#[119, 104, 105, 108, 101]⟩, ⟨#[112, 114, 105, 110, 116]⟩, ⟨#[99, 97, 108, 108]⟩, ⟨#[104, 97, 108, 116]⟩, ⟨#[114, 108, 120]⟩, ⟨#[97, 99, 113]⟩, ⟨#[114, 101, 108]⟩, ⟨#[98, 111, 116, 104]⟩]

theorem words_fill : fillRows 1 (List.replicate 26 [(.sc (.string ⟨#[]⟩))]) [(0, ((.sc (.string ⟨#[99, 101, 108, 108]⟩)))), (1, ((.sc (.string ⟨#[112, 114, 111, 99]⟩)))), (2, ((.sc (.string ⟨#[116, 104, 114, 101, 97, 100]⟩)))), (3, ((.sc (.string ⟨#[118, 97, 114]⟩)))), (4, ((.sc (.string ⟨#[97, 114, 114, 97, 121]⟩)))), (5, ((.sc (.string ⟨#[108, 111, 97, 100]⟩)))), (6, ((.sc (.string ⟨#[115, 116, 111, 114, 101]⟩)))), (7, ((.sc (.string ⟨#[115, 119, 97, 112]⟩)))), (8, ((.sc (.string ⟨#[97, 100, 100]⟩)))), (9, ((.sc (.string ⟨#[97, 110, 100]⟩)))), (10, ((.sc (.string ⟨#[111, 114]⟩)))), (11, ((.sc (.string ⟨#[120, 111, 114]⟩)))), (12, ((.sc (.string ⟨#[109, 105, 110]⟩)))), (13, ((.sc (.string ⟨#[109, 97, 120]⟩)))), (14, ((.sc (.string ⟨#[99, 97, 115]⟩)))), (15, ((.sc (.string ⟨#[102, 101, 110, 99, 101]⟩)))), (16, ((.sc (.string ⟨#[105, 102]⟩)))), (17, ((.sc (.string ⟨#[101, 108, 115, 101]⟩)))), (18, ((.sc (.string ⟨#[119, 104, 105, 108, 101]⟩)))), (19, ((.sc (.string ⟨#[112, 114, 105, 110, 116]⟩)))), (20, ((.sc (.string ⟨#[99, 97, 108, 108]⟩)))), (21, ((.sc (.string ⟨#[104, 97, 108, 116]⟩)))), (22, ((.sc (.string ⟨#[114, 108, 120]⟩)))), (23, ((.sc (.string ⟨#[97, 99, 113]⟩)))), (24, ((.sc (.string ⟨#[114, 101, 108]⟩)))), (25, ((.sc (.string ⟨#[98, 111, 116, 104]⟩))))] = some (wordsL.map sv) := rfl
theorem words_ground : ((wordsL.map sv).all fun r => r.all ground) = true := rfl
theorem words_r {base : Nat} (h : Heap) : WpF S0 base k_spinnakerref22_Words [] h fun v h' => v = .slc .lit 1 (wordsL.map sv) ∧ h' = h := by
  refine WpF_pure (A := f_spinnakerref22_Words) rfl rfl rfl rfl ?_
  simp only [f_spinnakerref22_Words]
  simp only [WpC_skip, WpC_ret, WpC_exit, WpC_region, WpC_seqD, WpC_block, WpC_condD, thenC_normal, thenC_ret, thenC_exit, thenQ_normal, thenQ_ret, thenQ_exit, condQ_true, condQ_false, condQ_bool, opQ_some, opQ_none, guardQ_tt, guardQ_tf, guardQ_ft, guardQ_ff, guardQ_no, blockQ_normal, blockQ_ret, blockQ_exit, endP_ret, endP_normal, endI_ret, endI_normal, resQ_some, Frz_sci, Frz_slci, FrzL_nili, FrzL_consi, Frz_tupi, Frz_aggi, Frz_ifci, oneCell, WpO_keep1, offV_ptr, offV_nil, blkNe_ptr, blkNe_sc, blkNe_slc, blkNe_eptr, blkNe_agg, blkNe_hsl, AOp.opds, Nat.reduceAdd, WpO_opD, WpO_nil, WpO_callD, WpO_guardD, step, Opd.get, put_app, put_none, ne_eq, reduceCtorEq, not_false_eq_true, not_true_eq_false, implies_true, slcLen, Option.map_some, Option.map_none, Option.bind_some, Option.bind_none, bin, binInt, reduceIte, Nat.reduceEqDiff, List.getD_cons_zero, List.getD_cons_succ, IntKind.signed, indexV, asNat?, loadV, cutCells, unary, evRess, evRes1, oneOrTup, wrapV, target, getsO, List.nil_append, List.append_nil, List.cons_append, Bool.false_eq_true, Bool.true_eq_false, decide_eq_true_eq, Bool.not_eq_true', decide_eq_false_iff_not, Bool.not_true, Bool.not_false, List.take_length, and_true, true_and, Int.ofNat_lt, Int.ofNat_le, Int.natCast_nonneg, Int.toNat_natCast, ge_iff_le, gt_iff_lt, if_true, if_false, List.length_map, decide_true, decide_false, int_beq, int_bne, bne_iff_ne, beq_iff_eq, Int.natCast_inj, Bool.and_eq_true, decide_not, Decidable.not_not, boundO, sliceV, exTo, Nat.zero_le, Nat.le_refl, Bool.or_true, beq_self_eq_true, Option.getD_some, Option.getD_none, List.drop_zero, Nat.sub_zero, and_self, or_true, true_or, or_self, false_or, or_false, and_false, false_and, Cp.isFull, isNil, moveV, Nat.add_zero, Nat.zero_add, Int.reduceLE, Int.reduceLT, Int.reduceEq, Int.reduceBEq, Int.reduceGT, Int.reduceGE, Nat.reduceLT, Nat.reduceLeDiff, getParts2, words_fill, words_ground]

/-- A call that ends in a way that some number tells. -/
theorem callD_ex {α : Type} {S : Fns} {base : Nat} {k : FuncId} {vs : List V} {h : Heap} {p : α → Prop} {f : α → V} (hw : WpF S base k vs h fun v h' => (∃ a, v = f a ∧ p a) ∧ h' = h) : ∃ a, p a ∧ WpF S base k vs h fun v h' => v = f a ∧ h' = h :=
  let ⟨n, v, h', e, ⟨a, ha, hp⟩, hh⟩ := hw
  ⟨a, hp, n, v, h', e, ha, hh⟩

/-! ### Bytes -/

abbrev bv (c : UInt8) : List V := [.sc (.int .u8 c.toNat)]
theorem bytesOut_map (s : ByteArray) : bytesOut s = s.data.toList.map bv := rfl

/-- slices.IndexFunc over bytes. -/
theorem indexFunc_r {base : Nat} {g : FuncId} (cap : List V) (p : UInt8 → Bool) (l : List UInt8) (ex : Cp) (h : Heap) (hl : l.length < 2 ^ 63) (hg : ∀ (base : Nat) (c : UInt8), WpF S0 base g (.sc (.int .u8 c.toNat) :: cap) h fun v h' => v = .bool (p c) ∧ h' = h) :
    WpF S0 base k_slices_IndexFuncbytebyte [.slc ex 1 (l.map bv), .fn (.func g) [] cap] h fun v h' => (∃ n : Int, v = .sc (.int .i64 n) ∧ ((∃ i : Nat, n = i ∧ ∃ hi : i < l.length, p l[i] = true ∧ (l.take i).any p = false) ∨ (n = -1 ∧ l.any p = false))) ∧ h' = h := by
  refine WpF_pure (A := f_slices_IndexFuncbytebyte) rfl rfl rfl rfl ?_
  simp only [f_slices_IndexFuncbytebyte]
  simp only [WpC_skip, WpC_ret, WpC_exit, WpC_region, WpC_seqD, WpC_block, WpC_condD, thenC_normal, thenC_ret, thenC_exit, thenQ_normal, thenQ_ret, thenQ_exit, condQ_true, condQ_false, condQ_bool, opQ_some, opQ_none, guardQ_tt, guardQ_tf, guardQ_ft, guardQ_ff, guardQ_no, blockQ_normal, blockQ_ret, blockQ_exit, endP_ret, endP_normal, endI_ret, endI_normal, resQ_some, Frz_sci, Frz_slci, FrzL_nili, FrzL_consi, Frz_tupi, Frz_aggi, Frz_ifci, oneCell, WpO_keep1, offV_ptr, offV_nil, blkNe_ptr, blkNe_sc, blkNe_slc, blkNe_eptr, blkNe_agg, blkNe_hsl, AOp.opds, Nat.reduceAdd, WpO_opD, WpO_nil, WpO_callD, WpO_guardD, step, Opd.get, put_app, put_none, ne_eq, reduceCtorEq, not_false_eq_true, not_true_eq_false, implies_true, slcLen, Option.map_some, Option.map_none, Option.bind_some, Option.bind_none, bin, binInt, reduceIte, Nat.reduceEqDiff, List.getD_cons_zero, List.getD_cons_succ, IntKind.signed, indexV, asNat?, loadV, cutCells, unary, evRess, evRes1, oneOrTup, wrapV, target, getsO, List.nil_append, List.append_nil, List.cons_append, Bool.false_eq_true, Bool.true_eq_false, decide_eq_true_eq, Bool.not_eq_true', decide_eq_false_iff_not, Bool.not_true, Bool.not_false, List.take_length, and_true, true_and, Int.ofNat_lt, Int.ofNat_le, Int.natCast_nonneg, Int.toNat_natCast, ge_iff_le, gt_iff_lt, if_true, if_false, List.length_map, decide_true, decide_false, int_beq, int_bne, bne_iff_ne, beq_iff_eq, Int.natCast_inj, Bool.and_eq_true, decide_not, Decidable.not_not, boundO, sliceV, exTo, Nat.zero_le, Nat.le_refl, Bool.or_true, beq_self_eq_true, Option.getD_some, Option.getD_none, List.drop_zero, Nat.sub_zero, and_self, or_true, true_or, or_self, false_or, or_false, and_false, false_and, Cp.isFull, isNil, moveV, Nat.add_zero, Nat.zero_add, Int.reduceLE, Int.reduceLT, Int.reduceEq, Int.reduceBEq, Int.reduceGT, Int.reduceGE, Nat.reduceLT, Nat.reduceLeDiff]
  refine WpC_loopI (fun k en h' => ∃ i : Nat, k = l.length - i ∧ i ≤ l.length ∧ en 8 = V.int i ∧ en 7 = V.int l.length ∧ en 0 = .slc ex 1 (l.map bv) ∧ en 1 = .fn (.func g) [] cap ∧ (l.take i).any p = false ∧ h' = h) l.length ⟨0, rfl, Nat.zero_le _, rfl, rfl, rfl, rfl, rfl, rfl⟩ ?_
  rintro k en h' ⟨i, rfl, hi, e8, e7, e0, e1, hno, rfl⟩
  by_cases h1 : i < l.length
  · have hg' : (l.map bv)[i]? = some (bv l[i]) := by simp [List.getElem?_map, h1]
    have htk : l.take (i + 1) = l.take i ++ [l[i]] := by rw [List.take_add_one, List.getElem?_eq_getElem h1]; rfl
    have hc := fun base => hg base l[i]
    cases h2 : p l[i]
    · rw [h2] at hc
      simp only [WpC_skip, WpC_ret, WpC_exit, WpC_region, WpC_seqD, WpC_block, WpC_condD, thenC_normal, thenC_ret, thenC_exit, thenQ_normal, thenQ_ret, thenQ_exit, condQ_true, condQ_false, condQ_bool, opQ_some, opQ_none, guardQ_tt, guardQ_tf, guardQ_ft, guardQ_ff, guardQ_no, blockQ_normal, blockQ_ret, blockQ_exit, endP_ret, endP_normal, endI_ret, endI_normal, resQ_some, Frz_sci, Frz_slci, FrzL_nili, FrzL_consi, Frz_tupi, Frz_aggi, Frz_ifci, oneCell, WpO_keep1, offV_ptr, offV_nil, blkNe_ptr, blkNe_sc, blkNe_slc, blkNe_eptr, blkNe_agg, blkNe_hsl, AOp.opds, Nat.reduceAdd, WpO_opD, WpO_nil, WpO_callD, WpO_guardD, step, Opd.get, put_app, put_none, ne_eq, reduceCtorEq, not_false_eq_true, not_true_eq_false, implies_true, slcLen, Option.map_some, Option.map_none, Option.bind_some, Option.bind_none, bin, binInt, reduceIte, Nat.reduceEqDiff, List.getD_cons_zero, List.getD_cons_succ, IntKind.signed, indexV, asNat?, loadV, cutCells, unary, evRess, evRes1, oneOrTup, wrapV, target, getsO, List.nil_append, List.append_nil, List.cons_append, Bool.false_eq_true, Bool.true_eq_false, decide_eq_true_eq, Bool.not_eq_true', decide_eq_false_iff_not, Bool.not_true, Bool.not_false, List.take_length, and_true, true_and, Int.ofNat_lt, Int.ofNat_le, Int.natCast_nonneg, Int.toNat_natCast, ge_iff_le, gt_iff_lt, if_true, if_false, List.length_map, decide_true, decide_false, int_beq, int_bne, bne_iff_ne, beq_iff_eq, Int.natCast_inj, Bool.and_eq_true, decide_not, Decidable.not_not, boundO, sliceV, exTo, Nat.zero_le, Nat.le_refl, Bool.or_true, beq_self_eq_true, Option.getD_some, Option.getD_none, List.drop_zero, Nat.sub_zero, and_self, or_true, true_or, or_self, false_or, or_false, and_false, false_and, Cp.isFull, isNil, moveV, Nat.add_zero, Nat.zero_add, Int.reduceLE, Int.reduceLT, Int.reduceEq, Int.reduceBEq, Int.reduceGT, Int.reduceGE, Nat.reduceLT, Nat.reduceLeDiff, e8, e7, e0, e1, h1, hg', List.getElem?_cons_zero, callD_ret (hc _)]
      refine ⟨l.length - (i + 1), by omega, i + 1, rfl, by omega, by rw [wrap_i64 (by omega) (by omega)]; rfl, ?_⟩
      rw [htk, List.any_append, hno]
      simp [h2]
    · rw [h2] at hc
      simp only [WpC_skip, WpC_ret, WpC_exit, WpC_region, WpC_seqD, WpC_block, WpC_condD, thenC_normal, thenC_ret, thenC_exit, thenQ_normal, thenQ_ret, thenQ_exit, condQ_true, condQ_false, condQ_bool, opQ_some, opQ_none, guardQ_tt, guardQ_tf, guardQ_ft, guardQ_ff, guardQ_no, blockQ_normal, blockQ_ret, blockQ_exit, endP_ret, endP_normal, endI_ret, endI_normal, resQ_some, Frz_sci, Frz_slci, FrzL_nili, FrzL_consi, Frz_tupi, Frz_aggi, Frz_ifci, oneCell, WpO_keep1, offV_ptr, offV_nil, blkNe_ptr, blkNe_sc, blkNe_slc, blkNe_eptr, blkNe_agg, blkNe_hsl, AOp.opds, Nat.reduceAdd, WpO_opD, WpO_nil, WpO_callD, WpO_guardD, step, Opd.get, put_app, put_none, ne_eq, reduceCtorEq, not_false_eq_true, not_true_eq_false, implies_true, slcLen, Option.map_some, Option.map_none, Option.bind_some, Option.bind_none, bin, binInt, reduceIte, Nat.reduceEqDiff, List.getD_cons_zero, List.getD_cons_succ, IntKind.signed, indexV, asNat?, loadV, cutCells, unary, evRess, evRes1, oneOrTup, wrapV, target, getsO, List.nil_append, List.append_nil, List.cons_append, Bool.false_eq_true, Bool.true_eq_false, decide_eq_true_eq, Bool.not_eq_true', decide_eq_false_iff_not, Bool.not_true, Bool.not_false, List.take_length, and_true, true_and, Int.ofNat_lt, Int.ofNat_le, Int.natCast_nonneg, Int.toNat_natCast, ge_iff_le, gt_iff_lt, if_true, if_false, List.length_map, decide_true, decide_false, int_beq, int_bne, bne_iff_ne, beq_iff_eq, Int.natCast_inj, Bool.and_eq_true, decide_not, Decidable.not_not, boundO, sliceV, exTo, Nat.zero_le, Nat.le_refl, Bool.or_true, beq_self_eq_true, Option.getD_some, Option.getD_none, List.drop_zero, Nat.sub_zero, and_self, or_true, true_or, or_self, false_or, or_false, and_false, false_and, Cp.isFull, isNil, moveV, Nat.add_zero, Nat.zero_add, Int.reduceLE, Int.reduceLT, Int.reduceEq, Int.reduceBEq, Int.reduceGT, Int.reduceGE, Nat.reduceLT, Nat.reduceLeDiff, e8, e7, e0, e1, h1, hg', List.getElem?_cons_zero, callD_ret (hc _)]
      exact ⟨i, rfl, .inl ⟨i, rfl, h1, h2, hno⟩⟩
  · simp only [WpC_skip, WpC_ret, WpC_exit, WpC_region, WpC_seqD, WpC_block, WpC_condD, thenC_normal, thenC_ret, thenC_exit, thenQ_normal, thenQ_ret, thenQ_exit, condQ_true, condQ_false, condQ_bool, opQ_some, opQ_none, guardQ_tt, guardQ_tf, guardQ_ft, guardQ_ff, guardQ_no, blockQ_normal, blockQ_ret, blockQ_exit, endP_ret, endP_normal, endI_ret, endI_normal, resQ_some, Frz_sci, Frz_slci, FrzL_nili, FrzL_consi, Frz_tupi, Frz_aggi, Frz_ifci, oneCell, WpO_keep1, offV_ptr, offV_nil, blkNe_ptr, blkNe_sc, blkNe_slc, blkNe_eptr, blkNe_agg, blkNe_hsl, AOp.opds, Nat.reduceAdd, WpO_opD, WpO_nil, WpO_callD, WpO_guardD, step, Opd.get, put_app, put_none, ne_eq, reduceCtorEq, not_false_eq_true, not_true_eq_false, implies_true, slcLen, Option.map_some, Option.map_none, Option.bind_some, Option.bind_none, bin, binInt, reduceIte, Nat.reduceEqDiff, List.getD_cons_zero, List.getD_cons_succ, IntKind.signed, indexV, asNat?, loadV, cutCells, unary, evRess, evRes1, oneOrTup, wrapV, target, getsO, List.nil_append, List.append_nil, List.cons_append, Bool.false_eq_true, Bool.true_eq_false, decide_eq_true_eq, Bool.not_eq_true', decide_eq_false_iff_not, Bool.not_true, Bool.not_false, List.take_length, and_true, true_and, Int.ofNat_lt, Int.ofNat_le, Int.natCast_nonneg, Int.toNat_natCast, ge_iff_le, gt_iff_lt, if_true, if_false, List.length_map, decide_true, decide_false, int_beq, int_bne, bne_iff_ne, beq_iff_eq, Int.natCast_inj, Bool.and_eq_true, decide_not, Decidable.not_not, boundO, sliceV, exTo, Nat.zero_le, Nat.le_refl, Bool.or_true, beq_self_eq_true, Option.getD_some, Option.getD_none, List.drop_zero, Nat.sub_zero, and_self, or_true, true_or, or_self, false_or, or_false, and_false, false_and, Cp.isFull, isNil, moveV, Nat.add_zero, Nat.zero_add, Int.reduceLE, Int.reduceLT, Int.reduceEq, Int.reduceBEq, Int.reduceGT, Int.reduceGE, Nat.reduceLT, Nat.reduceLeDiff, e8, e7, e0, h1]
    have : l.take i = l := List.take_of_length_le (by omega)
    rw [this] at hno
    exact ⟨-1, rfl, .inr ⟨rfl, hno⟩⟩

end Go.Am
end
section
/- Am: the plain law of LexNames. -/
set_option linter.unusedSimpArgs false
namespace Go.Am

theorem byte_at (s : ByteArray) (k : Nat) : s[k]? = s.data.toList[k]? := by
  by_cases h : k < s.size
  · have h' : k < s.data.toList.length := by simpa using h
    rw [List.getElem?_eq_getElem h', getElem?_pos s k h]
    rfl
  · have h' : s.data.toList.length ≤ k := by
      have : s.data.toList.length = s.size := by simp
      omega
    rw [List.getElem?_eq_none h', getElem?_neg s k h]

theorem size_list (s : ByteArray) : s.data.toList.length = s.size := by simp

def eitherB (c : UInt8) : Bool := letterB c.toNat || digitB c.toNat
/-- A name. -/
def nameB (s : ByteArray) : Bool := decide (1 ≤ s.size ∧ s.size ≤ 32) && (match s.data.toList with | c :: _ => letterB c.toNat | [] => false) && !inB wordsL s && s.data.toList.all eitherB

theorem empty_list (s : ByteArray) : (s.toList == (⟨#[]⟩ : ByteArray).toList) = decide (s.size = 0) := by
  rw [ByteArray.toList_eq, ByteArray.toList_eq]
  have e : (⟨#[]⟩ : ByteArray).data.toList = [] := rfl
  rw [e]
  have := size_list s
  cases hl : s.data.toList with
  | nil => rw [hl] at this; simp at this; simp [← this]
  | cons c r => rw [hl] at this; simp at this; simp [← this]

theorem refName_r {base : Nat} (s : ByteArray) (h : Heap) : WpF S0 base k_spinnakerref22_Name [.sc (.string s)] h fun v h' => v = .bool (nameB s) ∧ h' = h := by
  refine WpF_pure (A := f_spinnakerref22_Name) rfl rfl rfl rfl ?_
  simp only [f_spinnakerref22_Name]
  by_cases h0 : s.size = 0
  · simp only [WpC_skip, WpC_ret, WpC_exit, WpC_region, WpC_seqD, WpC_block, WpC_condD, thenC_normal, thenC_ret, thenC_exit, thenQ_normal, thenQ_ret, thenQ_exit, condQ_true, condQ_false, condQ_bool, opQ_some, opQ_none, guardQ_tt, guardQ_tf, guardQ_ft, guardQ_ff, guardQ_no, blockQ_normal, blockQ_ret, blockQ_exit, endP_ret, endP_normal, endI_ret, endI_normal, resQ_some, Frz_sci, Frz_slci, FrzL_nili, FrzL_consi, Frz_tupi, Frz_aggi, Frz_ifci, oneCell, WpO_keep1, offV_ptr, offV_nil, blkNe_ptr, blkNe_sc, blkNe_slc, blkNe_eptr, blkNe_agg, blkNe_hsl, AOp.opds, Nat.reduceAdd, WpO_opD, WpO_nil, WpO_callD, WpO_guardD, step, Opd.get, put_app, put_none, ne_eq, reduceCtorEq, not_false_eq_true, not_true_eq_false, implies_true, slcLen, Option.map_some, Option.map_none, Option.bind_some, Option.bind_none, bin, binInt, reduceIte, Nat.reduceEqDiff, List.getD_cons_zero, List.getD_cons_succ, IntKind.signed, indexV, asNat?, loadV, cutCells, unary, evRess, evRes1, oneOrTup, wrapV, target, getsO, List.nil_append, List.append_nil, List.cons_append, Bool.false_eq_true, Bool.true_eq_false, decide_eq_true_eq, Bool.not_eq_true', decide_eq_false_iff_not, Bool.not_true, Bool.not_false, List.take_length, and_true, true_and, Int.ofNat_lt, Int.ofNat_le, Int.natCast_nonneg, Int.toNat_natCast, ge_iff_le, gt_iff_lt, if_true, if_false, List.length_map, decide_true, decide_false, int_beq, int_bne, bne_iff_ne, beq_iff_eq, Int.natCast_inj, Bool.and_eq_true, decide_not, Decidable.not_not, boundO, sliceV, exTo, Nat.zero_le, Nat.le_refl, Bool.or_true, beq_self_eq_true, Option.getD_some, Option.getD_none, List.drop_zero, Nat.sub_zero, and_self, or_true, true_or, or_self, false_or, or_false, and_false, false_and, Cp.isFull, isNil, moveV, Nat.add_zero, Nat.zero_add, Int.reduceLE, Int.reduceLT, Int.reduceEq, Int.reduceBEq, Int.reduceGT, Int.reduceGE, Nat.reduceLT, Nat.reduceLeDiff, show (s.size : Int) < 1 by omega]
    simp [nameB, h0]
  · have h0' : ¬ (s.size : Int) < 1 := by omega
    by_cases h1 : 32 < s.size
    · have h1' : (32 : Int) < s.size := by omega
      simp only [WpC_skip, WpC_ret, WpC_exit, WpC_region, WpC_seqD, WpC_block, WpC_condD, thenC_normal, thenC_ret, thenC_exit, thenQ_normal, thenQ_ret, thenQ_exit, condQ_true, condQ_false, condQ_bool, opQ_some, opQ_none, guardQ_tt, guardQ_tf, guardQ_ft, guardQ_ff, guardQ_no, blockQ_normal, blockQ_ret, blockQ_exit, endP_ret, endP_normal, endI_ret, endI_normal, resQ_some, Frz_sci, Frz_slci, FrzL_nili, FrzL_consi, Frz_tupi, Frz_aggi, Frz_ifci, oneCell, WpO_keep1, offV_ptr, offV_nil, blkNe_ptr, blkNe_sc, blkNe_slc, blkNe_eptr, blkNe_agg, blkNe_hsl, AOp.opds, Nat.reduceAdd, WpO_opD, WpO_nil, WpO_callD, WpO_guardD, step, Opd.get, put_app, put_none, ne_eq, reduceCtorEq, not_false_eq_true, not_true_eq_false, implies_true, slcLen, Option.map_some, Option.map_none, Option.bind_some, Option.bind_none, bin, binInt, reduceIte, Nat.reduceEqDiff, List.getD_cons_zero, List.getD_cons_succ, IntKind.signed, indexV, asNat?, loadV, cutCells, unary, evRess, evRes1, oneOrTup, wrapV, target, getsO, List.nil_append, List.append_nil, List.cons_append, Bool.false_eq_true, Bool.true_eq_false, decide_eq_true_eq, Bool.not_eq_true', decide_eq_false_iff_not, Bool.not_true, Bool.not_false, List.take_length, and_true, true_and, Int.ofNat_lt, Int.ofNat_le, Int.natCast_nonneg, Int.toNat_natCast, ge_iff_le, gt_iff_lt, if_true, if_false, List.length_map, decide_true, decide_false, int_beq, int_bne, bne_iff_ne, beq_iff_eq, Int.natCast_inj, Bool.and_eq_true, decide_not, Decidable.not_not, boundO, sliceV, exTo, Nat.zero_le, Nat.le_refl, Bool.or_true, beq_self_eq_true, Option.getD_some, Option.getD_none, List.drop_zero, Nat.sub_zero, and_self, or_true, true_or, or_self, false_or, or_false, and_false, false_and, Cp.isFull, isNil, moveV, Nat.add_zero, Nat.zero_add, Int.reduceLE, Int.reduceLT, Int.reduceEq, Int.reduceBEq, Int.reduceGT, Int.reduceGE, Nat.reduceLT, Nat.reduceLeDiff, h0', h1']
      simp [nameB, show ¬ s.size ≤ 32 by omega]
    · have h1' : ¬ (32 : Int) < s.size := by omega
      have hsz := size_list s
      obtain ⟨c, r, hcr⟩ : ∃ c r, s.data.toList = c :: r := by
        cases hl : s.data.toList with
        | nil => rw [hl] at hsz; simp at hsz; omega
        | cons c r => exact ⟨c, r, rfl⟩
      have hb : s[0]? = some c := by rw [byte_at, hcr]; rfl
      cases h2 : letterB c.toNat
      · simp only [WpC_skip, WpC_ret, WpC_exit, WpC_region, WpC_seqD, WpC_block, WpC_condD, thenC_normal, thenC_ret, thenC_exit, thenQ_normal, thenQ_ret, thenQ_exit, condQ_true, condQ_false, condQ_bool, opQ_some, opQ_none, guardQ_tt, guardQ_tf, guardQ_ft, guardQ_ff, guardQ_no, blockQ_normal, blockQ_ret, blockQ_exit, endP_ret, endP_normal, endI_ret, endI_normal, resQ_some, Frz_sci, Frz_slci, FrzL_nili, FrzL_consi, Frz_tupi, Frz_aggi, Frz_ifci, oneCell, WpO_keep1, offV_ptr, offV_nil, blkNe_ptr, blkNe_sc, blkNe_slc, blkNe_eptr, blkNe_agg, blkNe_hsl, AOp.opds, Nat.reduceAdd, WpO_opD, WpO_nil, WpO_callD, WpO_guardD, step, Opd.get, put_app, put_none, ne_eq, reduceCtorEq, not_false_eq_true, not_true_eq_false, implies_true, slcLen, Option.map_some, Option.map_none, Option.bind_some, Option.bind_none, bin, binInt, reduceIte, Nat.reduceEqDiff, List.getD_cons_zero, List.getD_cons_succ, IntKind.signed, indexV, asNat?, loadV, cutCells, unary, evRess, evRes1, oneOrTup, wrapV, target, getsO, List.nil_append, List.append_nil, List.cons_append, Bool.false_eq_true, Bool.true_eq_false, decide_eq_true_eq, Bool.not_eq_true', decide_eq_false_iff_not, Bool.not_true, Bool.not_false, List.take_length, and_true, true_and, Int.ofNat_lt, Int.ofNat_le, Int.natCast_nonneg, Int.toNat_natCast, ge_iff_le, gt_iff_lt, if_true, if_false, List.length_map, decide_true, decide_false, int_beq, int_bne, bne_iff_ne, beq_iff_eq, Int.natCast_inj, Bool.and_eq_true, decide_not, Decidable.not_not, boundO, sliceV, exTo, Nat.zero_le, Nat.le_refl, Bool.or_true, beq_self_eq_true, Option.getD_some, Option.getD_none, List.drop_zero, Nat.sub_zero, and_self, or_true, true_or, or_self, false_or, or_false, and_false, false_and, Cp.isFull, isNil, moveV, Nat.add_zero, Nat.zero_add, Int.reduceLE, Int.reduceLT, Int.reduceEq, Int.reduceBEq, Int.reduceGT, Int.reduceGE, Nat.reduceLT, Nat.reduceLeDiff, h0', h1', hb, callD_ret (alpha_r _ _), h2, Int.toNat_zero]
        simp [nameB, hcr, h2]
      · cases h3 : inB wordsL s
        · simp only [WpC_skip, WpC_ret, WpC_exit, WpC_region, WpC_seqD, WpC_block, WpC_condD, thenC_normal, thenC_ret, thenC_exit, thenQ_normal, thenQ_ret, thenQ_exit, condQ_true, condQ_false, condQ_bool, opQ_some, opQ_none, guardQ_tt, guardQ_tf, guardQ_ft, guardQ_ff, guardQ_no, blockQ_normal, blockQ_ret, blockQ_exit, endP_ret, endP_normal, endI_ret, endI_normal, resQ_some, Frz_sci, Frz_slci, FrzL_nili, FrzL_consi, Frz_tupi, Frz_aggi, Frz_ifci, oneCell, WpO_keep1, offV_ptr, offV_nil, blkNe_ptr, blkNe_sc, blkNe_slc, blkNe_eptr, blkNe_agg, blkNe_hsl, AOp.opds, Nat.reduceAdd, WpO_opD, WpO_nil, WpO_callD, WpO_guardD, step, Opd.get, put_app, put_none, ne_eq, reduceCtorEq, not_false_eq_true, not_true_eq_false, implies_true, slcLen, Option.map_some, Option.map_none, Option.bind_some, Option.bind_none, bin, binInt, reduceIte, Nat.reduceEqDiff, List.getD_cons_zero, List.getD_cons_succ, IntKind.signed, indexV, asNat?, loadV, cutCells, unary, evRess, evRes1, oneOrTup, wrapV, target, getsO, List.nil_append, List.append_nil, List.cons_append, Bool.false_eq_true, Bool.true_eq_false, decide_eq_true_eq, Bool.not_eq_true', decide_eq_false_iff_not, Bool.not_true, Bool.not_false, List.take_length, and_true, true_and, Int.ofNat_lt, Int.ofNat_le, Int.natCast_nonneg, Int.toNat_natCast, ge_iff_le, gt_iff_lt, if_true, if_false, List.length_map, decide_true, decide_false, int_beq, int_bne, bne_iff_ne, beq_iff_eq, Int.natCast_inj, Bool.and_eq_true, decide_not, Decidable.not_not, boundO, sliceV, exTo, Nat.zero_le, Nat.le_refl, Bool.or_true, beq_self_eq_true, Option.getD_some, Option.getD_none, List.drop_zero, Nat.sub_zero, and_self, or_true, true_or, or_self, false_or, or_false, and_false, false_and, Cp.isFull, isNil, moveV, Nat.add_zero, Nat.zero_add, Int.reduceLE, Int.reduceLT, Int.reduceEq, Int.reduceBEq, Int.reduceGT, Int.reduceGE, Nat.reduceLT, Nat.reduceLeDiff, h0', h1', hb, callD_ret (alpha_r _ _), h2, Int.toNat_zero, callD_ret (words_r _), callD_ret (in_r wordsL s _ _ (by decide)), h3]
          refine WpC_loopI (fun k en h' => ∃ i : Nat, k = s.size - i ∧ i ≤ s.size ∧ en 3 = V.int i ∧ en 0 = .sc (.string s) ∧ (s.data.toList.take i).all eitherB = true ∧ h' = h) s.size ⟨0, rfl, Nat.zero_le _, rfl, rfl, rfl, rfl⟩ ?_
          rintro k en h' ⟨i, rfl, hi, e3, e0, hall, rfl⟩
          by_cases h4 : i < s.size
          · have h4' : i < s.data.toList.length := by omega
            have hbi : s[i]? = some s.data.toList[i] := by rw [byte_at, List.getElem?_eq_getElem h4']
            have htk : s.data.toList.take (i + 1) = s.data.toList.take i ++ [s.data.toList[i]] := by rw [List.take_add_one, List.getElem?_eq_getElem h4']; rfl
            have go : ∀ (hh : eitherB s.data.toList[i] = true), ∃ j, j < s.size - i ∧ ∃ i_1, j = s.size - i_1 ∧ i_1 ≤ s.size ∧ V.sc (.int .i64 (IntKind.i64.wrap ((i : Int) + 1))) = V.int i_1 ∧ (s.data.toList.take i_1).all eitherB = true := fun hh =>
              ⟨s.size - (i + 1), by omega, i + 1, rfl, by omega, by rw [wrap_i64 (by omega) (by omega)]; rfl, by rw [htk, List.all_append, hall, List.all_cons, hh]; rfl⟩
            cases h5 : letterB (s.data.toList[i]).toNat
            · cases h6 : digitB (s.data.toList[i]).toNat
              · simp only [WpC_skip, WpC_ret, WpC_exit, WpC_region, WpC_seqD, WpC_block, WpC_condD, thenC_normal, thenC_ret, thenC_exit, thenQ_normal, thenQ_ret, thenQ_exit, condQ_true, condQ_false, condQ_bool, opQ_some, opQ_none, guardQ_tt, guardQ_tf, guardQ_ft, guardQ_ff, guardQ_no, blockQ_normal, blockQ_ret, blockQ_exit, endP_ret, endP_normal, endI_ret, endI_normal, resQ_some, Frz_sci, Frz_slci, FrzL_nili, FrzL_consi, Frz_tupi, Frz_aggi, Frz_ifci, oneCell, WpO_keep1, offV_ptr, offV_nil, blkNe_ptr, blkNe_sc, blkNe_slc, blkNe_eptr, blkNe_agg, blkNe_hsl, AOp.opds, Nat.reduceAdd, WpO_opD, WpO_nil, WpO_callD, WpO_guardD, step, Opd.get, put_app, put_none, ne_eq, reduceCtorEq, not_false_eq_true, not_true_eq_false, implies_true, slcLen, Option.map_some, Option.map_none, Option.bind_some, Option.bind_none, bin, binInt, reduceIte, Nat.reduceEqDiff, List.getD_cons_zero, List.getD_cons_succ, IntKind.signed, indexV, asNat?, loadV, cutCells, unary, evRess, evRes1, oneOrTup, wrapV, target, getsO, List.nil_append, List.append_nil, List.cons_append, Bool.false_eq_true, Bool.true_eq_false, decide_eq_true_eq, Bool.not_eq_true', decide_eq_false_iff_not, Bool.not_true, Bool.not_false, List.take_length, and_true, true_and, Int.ofNat_lt, Int.ofNat_le, Int.natCast_nonneg, Int.toNat_natCast, ge_iff_le, gt_iff_lt, if_true, if_false, List.length_map, decide_true, decide_false, int_beq, int_bne, bne_iff_ne, beq_iff_eq, Int.natCast_inj, Bool.and_eq_true, decide_not, Decidable.not_not, boundO, sliceV, exTo, Nat.zero_le, Nat.le_refl, Bool.or_true, beq_self_eq_true, Option.getD_some, Option.getD_none, List.drop_zero, Nat.sub_zero, and_self, or_true, true_or, or_self, false_or, or_false, and_false, false_and, Cp.isFull, isNil, moveV, Nat.add_zero, Nat.zero_add, Int.reduceLE, Int.reduceLT, Int.reduceEq, Int.reduceBEq, Int.reduceGT, Int.reduceGE, Nat.reduceLT, Nat.reduceLeDiff, e3, e0, h4, hbi, callD_ret (alpha_r _ _), callD_ret (num_r _ _), h5, h6]
                have : s.data.toList.all eitherB = false := by
                  rw [← Bool.not_eq_true, List.all_eq_true]
                  intro q
                  have := q _ (List.getElem_mem h4')
                  unfold eitherB at this
                  rw [h5, h6] at this
                  exact absurd this (by simp)
                simp [nameB, this]
              · simp only [WpC_skip, WpC_ret, WpC_exit, WpC_region, WpC_seqD, WpC_block, WpC_condD, thenC_normal, thenC_ret, thenC_exit, thenQ_normal, thenQ_ret, thenQ_exit, condQ_true, condQ_false, condQ_bool, opQ_some, opQ_none, guardQ_tt, guardQ_tf, guardQ_ft, guardQ_ff, guardQ_no, blockQ_normal, blockQ_ret, blockQ_exit, endP_ret, endP_normal, endI_ret, endI_normal, resQ_some, Frz_sci, Frz_slci, FrzL_nili, FrzL_consi, Frz_tupi, Frz_aggi, Frz_ifci, oneCell, WpO_keep1, offV_ptr, offV_nil, blkNe_ptr, blkNe_sc, blkNe_slc, blkNe_eptr, blkNe_agg, blkNe_hsl, AOp.opds, Nat.reduceAdd, WpO_opD, WpO_nil, WpO_callD, WpO_guardD, step, Opd.get, put_app, put_none, ne_eq, reduceCtorEq, not_false_eq_true, not_true_eq_false, implies_true, slcLen, Option.map_some, Option.map_none, Option.bind_some, Option.bind_none, bin, binInt, reduceIte, Nat.reduceEqDiff, List.getD_cons_zero, List.getD_cons_succ, IntKind.signed, indexV, asNat?, loadV, cutCells, unary, evRess, evRes1, oneOrTup, wrapV, target, getsO, List.nil_append, List.append_nil, List.cons_append, Bool.false_eq_true, Bool.true_eq_false, decide_eq_true_eq, Bool.not_eq_true', decide_eq_false_iff_not, Bool.not_true, Bool.not_false, List.take_length, and_true, true_and, Int.ofNat_lt, Int.ofNat_le, Int.natCast_nonneg, Int.toNat_natCast, ge_iff_le, gt_iff_lt, if_true, if_false, List.length_map, decide_true, decide_false, int_beq, int_bne, bne_iff_ne, beq_iff_eq, Int.natCast_inj, Bool.and_eq_true, decide_not, Decidable.not_not, boundO, sliceV, exTo, Nat.zero_le, Nat.le_refl, Bool.or_true, beq_self_eq_true, Option.getD_some, Option.getD_none, List.drop_zero, Nat.sub_zero, and_self, or_true, true_or, or_self, false_or, or_false, and_false, false_and, Cp.isFull, isNil, moveV, Nat.add_zero, Nat.zero_add, Int.reduceLE, Int.reduceLT, Int.reduceEq, Int.reduceBEq, Int.reduceGT, Int.reduceGE, Nat.reduceLT, Nat.reduceLeDiff, e3, e0, h4, hbi, callD_ret (alpha_r _ _), callD_ret (num_r _ _), h5, h6]
                exact go (by unfold eitherB; rw [h6, Bool.or_true])
            · simp only [WpC_skip, WpC_ret, WpC_exit, WpC_region, WpC_seqD, WpC_block, WpC_condD, thenC_normal, thenC_ret, thenC_exit, thenQ_normal, thenQ_ret, thenQ_exit, condQ_true, condQ_false, condQ_bool, opQ_some, opQ_none, guardQ_tt, guardQ_tf, guardQ_ft, guardQ_ff, guardQ_no, blockQ_normal, blockQ_ret, blockQ_exit, endP_ret, endP_normal, endI_ret, endI_normal, resQ_some, Frz_sci, Frz_slci, FrzL_nili, FrzL_consi, Frz_tupi, Frz_aggi, Frz_ifci, oneCell, WpO_keep1, offV_ptr, offV_nil, blkNe_ptr, blkNe_sc, blkNe_slc, blkNe_eptr, blkNe_agg, blkNe_hsl, AOp.opds, Nat.reduceAdd, WpO_opD, WpO_nil, WpO_callD, WpO_guardD, step, Opd.get, put_app, put_none, ne_eq, reduceCtorEq, not_false_eq_true, not_true_eq_false, implies_true, slcLen, Option.map_some, Option.map_none, Option.bind_some, Option.bind_none, bin, binInt, reduceIte, Nat.reduceEqDiff, List.getD_cons_zero, List.getD_cons_succ, IntKind.signed, indexV, asNat?, loadV, cutCells, unary, evRess, evRes1, oneOrTup, wrapV, target, getsO, List.nil_append, List.append_nil, List.cons_append, Bool.false_eq_true, Bool.true_eq_false, decide_eq_true_eq, Bool.not_eq_true', decide_eq_false_iff_not, Bool.not_true, Bool.not_false, List.take_length, and_true, true_and, Int.ofNat_lt, Int.ofNat_le, Int.natCast_nonneg, Int.toNat_natCast, ge_iff_le, gt_iff_lt, if_true, if_false, List.length_map, decide_true, decide_false, int_beq, int_bne, bne_iff_ne, beq_iff_eq, Int.natCast_inj, Bool.and_eq_true, decide_not, Decidable.not_not, boundO, sliceV, exTo, Nat.zero_le, Nat.le_refl, Bool.or_true, beq_self_eq_true, Option.getD_some, Option.getD_none, List.drop_zero, Nat.sub_zero, and_self, or_true, true_or, or_self, false_or, or_false, and_false, false_and, Cp.isFull, isNil, moveV, Nat.add_zero, Nat.zero_add, Int.reduceLE, Int.reduceLT, Int.reduceEq, Int.reduceBEq, Int.reduceGT, Int.reduceGE, Nat.reduceLT, Nat.reduceLeDiff, e3, e0, h4, hbi, callD_ret (alpha_r _ _), h5]
              exact go (by unfold eitherB; rw [h5]; rfl)
          · simp only [WpC_skip, WpC_ret, WpC_exit, WpC_region, WpC_seqD, WpC_block, WpC_condD, thenC_normal, thenC_ret, thenC_exit, thenQ_normal, thenQ_ret, thenQ_exit, condQ_true, condQ_false, condQ_bool, opQ_some, opQ_none, guardQ_tt, guardQ_tf, guardQ_ft, guardQ_ff, guardQ_no, blockQ_normal, blockQ_ret, blockQ_exit, endP_ret, endP_normal, endI_ret, endI_normal, resQ_some, Frz_sci, Frz_slci, FrzL_nili, FrzL_consi, Frz_tupi, Frz_aggi, Frz_ifci, oneCell, WpO_keep1, offV_ptr, offV_nil, blkNe_ptr, blkNe_sc, blkNe_slc, blkNe_eptr, blkNe_agg, blkNe_hsl, AOp.opds, Nat.reduceAdd, WpO_opD, WpO_nil, WpO_callD, WpO_guardD, step, Opd.get, put_app, put_none, ne_eq, reduceCtorEq, not_false_eq_true, not_true_eq_false, implies_true, slcLen, Option.map_some, Option.map_none, Option.bind_some, Option.bind_none, bin, binInt, reduceIte, Nat.reduceEqDiff, List.getD_cons_zero, List.getD_cons_succ, IntKind.signed, indexV, asNat?, loadV, cutCells, unary, evRess, evRes1, oneOrTup, wrapV, target, getsO, List.nil_append, List.append_nil, List.cons_append, Bool.false_eq_true, Bool.true_eq_false, decide_eq_true_eq, Bool.not_eq_true', decide_eq_false_iff_not, Bool.not_true, Bool.not_false, List.take_length, and_true, true_and, Int.ofNat_lt, Int.ofNat_le, Int.natCast_nonneg, Int.toNat_natCast, ge_iff_le, gt_iff_lt, if_true, if_false, List.length_map, decide_true, decide_false, int_beq, int_bne, bne_iff_ne, beq_iff_eq, Int.natCast_inj, Bool.and_eq_true, decide_not, Decidable.not_not, boundO, sliceV, exTo, Nat.zero_le, Nat.le_refl, Bool.or_true, beq_self_eq_true, Option.getD_some, Option.getD_none, List.drop_zero, Nat.sub_zero, and_self, or_true, true_or, or_self, false_or, or_false, and_false, false_and, Cp.isFull, isNil, moveV, Nat.add_zero, Nat.zero_add, Int.reduceLE, Int.reduceLT, Int.reduceEq, Int.reduceBEq, Int.reduceGT, Int.reduceGE, Nat.reduceLT, Nat.reduceLeDiff, e3, e0, h4]
            have : s.data.toList.take i = s.data.toList := List.take_of_length_le (by omega)
            rw [this] at hall
            simp [nameB, hcr, h2, h3, show 1 ≤ s.size ∧ s.size ≤ 32 by omega]
            rw [hcr] at hall
            simpa using hall
        · simp only [WpC_skip, WpC_ret, WpC_exit, WpC_region, WpC_seqD, WpC_block, WpC_condD, thenC_normal, thenC_ret, thenC_exit, thenQ_normal, thenQ_ret, thenQ_exit, condQ_true, condQ_false, condQ_bool, opQ_some, opQ_none, guardQ_tt, guardQ_tf, guardQ_ft, guardQ_ff, guardQ_no, blockQ_normal, blockQ_ret, blockQ_exit, endP_ret, endP_normal, endI_ret, endI_normal, resQ_some, Frz_sci, Frz_slci, FrzL_nili, FrzL_consi, Frz_tupi, Frz_aggi, Frz_ifci, oneCell, WpO_keep1, offV_ptr, offV_nil, blkNe_ptr, blkNe_sc, blkNe_slc, blkNe_eptr, blkNe_agg, blkNe_hsl, AOp.opds, Nat.reduceAdd, WpO_opD, WpO_nil, WpO_callD, WpO_guardD, step, Opd.get, put_app, put_none, ne_eq, reduceCtorEq, not_false_eq_true, not_true_eq_false, implies_true, slcLen, Option.map_some, Option.map_none, Option.bind_some, Option.bind_none, bin, binInt, reduceIte, Nat.reduceEqDiff, List.getD_cons_zero, List.getD_cons_succ, IntKind.signed, indexV, asNat?, loadV, cutCells, unary, evRess, evRes1, oneOrTup, wrapV, target, getsO, List.nil_append, List.append_nil, List.cons_append, Bool.false_eq_true, Bool.true_eq_false, decide_eq_true_eq, Bool.not_eq_true', decide_eq_false_iff_not, Bool.not_true, Bool.not_false, List.take_length, and_true, true_and, Int.ofNat_lt, Int.ofNat_le, Int.natCast_nonneg, Int.toNat_natCast, ge_iff_le, gt_iff_lt, if_true, if_false, List.length_map, decide_true, decide_false, int_beq, int_bne, bne_iff_ne, beq_iff_eq, Int.natCast_inj, Bool.and_eq_true, decide_not, Decidable.not_not, boundO, sliceV, exTo, Nat.zero_le, Nat.le_refl, Bool.or_true, beq_self_eq_true, Option.getD_some, Option.getD_none, List.drop_zero, Nat.sub_zero, and_self, or_true, true_or, or_self, false_or, or_false, and_false, false_and, Cp.isFull, isNil, moveV, Nat.add_zero, Nat.zero_add, Int.reduceLE, Int.reduceLT, Int.reduceEq, Int.reduceBEq, Int.reduceGT, Int.reduceGE, Nat.reduceLT, Nat.reduceLeDiff, h0', h1', hb, callD_ret (alpha_r _ _), h2, Int.toNat_zero, callD_ret (words_r _), callD_ret (in_r wordsL s _ _ (by decide)), h3]
          simp [nameB, h3]

def isTrueB : Option (V × Heap) → Bool
  | some (.sc (.bool true), []) => true
  | _ => false
set_option maxRecDepth 100000 in
theorem lexAwake_run : isTrueB (evCall Xt Ft 80 0 k_spinnakerlaw22_awake [] []) = true := by kernel_rfl
theorem lexAwake_r : WpF S0 0 k_spinnakerlaw22_awake [] [] fun v h' => v = .bool true ∧ h' = [] := by
  have := lexAwake_run
  unfold isTrueB at this
  split at this
  · rename_i e
    exact ⟨80, _, _, e, rfl, rfl⟩
  · simp at this

end Go.Am
end
section
/- Am: numbers from texts. -/
set_option linter.unusedSimpArgs false
namespace Go.Am

theorem bytesIn_bv (l : List UInt8) : bytesIn (l.map bv) = some l := by
  induction l with
  | nil => rfl
  | cons c r ih =>
    simp only [List.map_cons, bytesIn, ih, Option.map_some, Int.toNat_natCast, UInt8.ofNat_toNat]

abbrev bs (l : List UInt8) : ByteArray := ⟨l.toArray⟩
theorem bs_size (l : List UInt8) : (bs l).size = l.length := by rw [← size_list]
theorem bs_at (l : List UInt8) (k : Nat) : (bs l)[k]? = l[k]? := by rw [byte_at]
theorem bs_out (l : List UInt8) : bytesOut (bs l) = l.map bv := rfl
theorem bs_list (l : List UInt8) : (bs l).toList = l := by rw [ByteArray.toList_eq]

theorem wrap_u8 {n : Int} (h0 : 0 ≤ n) (h1 : n ≤ 255) : IntKind.wrap .u8 n = n := by
  simp [IntKind.wrap, IntKind.signed, IntKind.bits]
  omega
theorem wrap_u64 {n : Int} (h0 : 0 ≤ n) (h1 : n ≤ 18446744073709551615) : IntKind.wrap .u64 n = n := by
  simp [IntKind.wrap, IntKind.signed, IntKind.bits]
  omega

/-- The number that digits are. -/
def valL (l : List UInt8) : Nat := l.foldl (fun n c => 10 * n + (c.toNat - 48)) 0
theorem valL_snoc (l : List UInt8) (c : UInt8) : valL (l ++ [c]) = 10 * valL l + (c.toNat - 48) := by simp [valL]
theorem valL_take (l : List UInt8) (i : Nat) (h : i < l.length) : valL (l.take (i + 1)) = 10 * valL (l.take i) + (l[i].toNat - 48) := by
  rw [List.take_add_one, List.getElem?_eq_getElem h]
  exact valL_snoc _ _
theorem valL_grow (l r : List UInt8) : valL l ≤ valL (l ++ r) := by
  induction r generalizing l with
  | nil => simp
  | cons c r ih =>
    have := ih (l ++ [c])
    rw [valL_snoc] at this
    simp only [List.append_assoc, List.cons_append, List.nil_append] at this
    omega
theorem valL_take_le (l : List UInt8) (i : Nat) : valL (l.take i) ≤ valL l := by
  have := valL_grow (l.take i) (l.drop i)
  rwa [List.take_append_drop] at this
theorem digit_le {c : UInt8} (h : digitB c.toNat = true) : 48 ≤ c.toNat ∧ c.toNat ≤ 57 := by
  unfold digitB at h
  simp only [decide_eq_true_eq] at h
  omega
theorem valL_lt (l : List UInt8) (hd : ∀ c ∈ l, digitB c.toNat = true) : ∀ i, i ≤ l.length → valL (l.take i) < 10 ^ i
  | 0, _ => by simp [valL]
  | i + 1, h => by
    have h1 := valL_lt l hd i (by omega)
    have h2 := digit_le (hd _ (List.getElem_mem (show i < l.length by omega)))
    rw [valL_take l i (by omega), Nat.pow_succ]
    omega

theorem number_r {base : Nat} (l : List UInt8) (h : Heap) (hd : ∀ c ∈ l, digitB c.toNat = true) (hl : l.length < 2 ^ 62) :
    WpF S0 base k_spinnakerref22_number [.sc (.string (bs l))] h fun v h' => v = .tup [V.int (if valL l < 2 ^ 63 then valL l else 0 : Nat), .bool (decide (valL l < 2 ^ 63))] ∧ h' = h := by
  refine WpF_pure (A := f_spinnakerref22_number) rfl rfl rfl rfl ?_
  simp only [f_spinnakerref22_number]
  simp only [WpC_skip, WpC_ret, WpC_exit, WpC_region, WpC_seqD, WpC_block, WpC_condD, thenC_normal, thenC_ret, thenC_exit, thenQ_normal, thenQ_ret, thenQ_exit, condQ_true, condQ_false, condQ_bool, opQ_some, opQ_none, guardQ_tt, guardQ_tf, guardQ_ft, guardQ_ff, guardQ_no, blockQ_normal, blockQ_ret, blockQ_exit, endP_ret, endP_normal, endI_ret, endI_normal, resQ_some, Frz_sci, Frz_slci, FrzL_nili, FrzL_consi, Frz_tupi, Frz_aggi, Frz_ifci, oneCell, WpO_keep1, offV_ptr, offV_nil, blkNe_ptr, blkNe_sc, blkNe_slc, blkNe_eptr, blkNe_agg, blkNe_hsl, AOp.opds, Nat.reduceAdd, WpO_opD, WpO_nil, WpO_callD, WpO_guardD, step, Opd.get, put_app, put_none, ne_eq, reduceCtorEq, not_false_eq_true, not_true_eq_false, implies_true, slcLen, Option.map_some, Option.map_none, Option.bind_some, Option.bind_none, bin, binInt, reduceIte, Nat.reduceEqDiff, List.getD_cons_zero, List.getD_cons_succ, IntKind.signed, indexV, asNat?, loadV, cutCells, unary, evRess, evRes1, oneOrTup, wrapV, target, getsO, List.nil_append, List.append_nil, List.cons_append, Bool.false_eq_true, Bool.true_eq_false, decide_eq_true_eq, Bool.not_eq_true', decide_eq_false_iff_not, Bool.not_true, Bool.not_false, List.take_length, and_true, true_and, Int.ofNat_lt, Int.ofNat_le, Int.natCast_nonneg, Int.toNat_natCast, ge_iff_le, gt_iff_lt, if_true, if_false, List.length_map, decide_true, decide_false, int_beq, int_bne, bne_iff_ne, beq_iff_eq, Int.natCast_inj, Bool.and_eq_true, decide_not, Decidable.not_not, boundO, sliceV, exTo, Nat.zero_le, Nat.le_refl, Bool.or_true, beq_self_eq_true, Option.getD_some, Option.getD_none, List.drop_zero, Nat.sub_zero, and_self, or_true, true_or, or_self, false_or, or_false, and_false, false_and, Cp.isFull, isNil, moveV, Nat.add_zero, Nat.zero_add, Int.reduceLE, Int.reduceLT, Int.reduceEq, Int.reduceBEq, Int.reduceGT, Int.reduceGE, Nat.reduceLT, Nat.reduceLeDiff]
  refine WpC_loopI (fun k en h' => ∃ i : Nat, k = l.length - i ∧ i ≤ l.length ∧ en 5 = V.int i ∧ en 4 = .sc (.int .u64 (valL (l.take i))) ∧ valL (l.take i) < 2 ^ 63 ∧ en 0 = .sc (.string (bs l)) ∧ h' = h) l.length ⟨0, rfl, Nat.zero_le _, rfl, rfl, by simp [valL], rfl, rfl⟩ ?_
  rintro k en h' ⟨i, rfl, hi, e5, e4, hv, e0, rfl⟩
  by_cases h1 : i < l.length
  · have hb : (bs l)[i]? = some l[i] := by rw [bs_at, List.getElem?_eq_getElem h1]
    have hdd := digit_le (hd _ (List.getElem_mem h1))
    have w1 : IntKind.wrap .u8 ((l[i].toNat : Int) - 48) = ((l[i].toNat - 48 : Nat) : Int) := by rw [wrap_u8 (by omega) (by omega)]; omega
    have w2 : IntKind.wrap .u64 ((l[i].toNat - 48 : Nat) : Int) = ((l[i].toNat - 48 : Nat) : Int) := wrap_u64 (by omega) (by omega)
    have w3 : IntKind.wrap .u64 (9223372036854775807 - ((l[i].toNat - 48 : Nat) : Int)) = ((9223372036854775807 - (l[i].toNat - 48) : Nat) : Int) := by rw [wrap_u64 (by omega) (by omega)]; omega
    have w4 : IntKind.wrap .u64 (Int.tdiv ((9223372036854775807 - (l[i].toNat - 48) : Nat) : Int) 10) = (((9223372036854775807 - (l[i].toNat - 48)) / 10 : Nat) : Int) := by
      rw [show (10 : Int) = ((10 : Nat) : Int) from rfl, ← Int.ofNat_tdiv]
      exact wrap_u64 (by omega) (by omega)
    by_cases h2 : (9223372036854775807 - (l[i].toNat - 48)) / 10 < valL (l.take i)
    · simp only [WpC_skip, WpC_ret, WpC_exit, WpC_region, WpC_seqD, WpC_block, WpC_condD, thenC_normal, thenC_ret, thenC_exit, thenQ_normal, thenQ_ret, thenQ_exit, condQ_true, condQ_false, condQ_bool, opQ_some, opQ_none, guardQ_tt, guardQ_tf, guardQ_ft, guardQ_ff, guardQ_no, blockQ_normal, blockQ_ret, blockQ_exit, endP_ret, endP_normal, endI_ret, endI_normal, resQ_some, Frz_sci, Frz_slci, FrzL_nili, FrzL_consi, Frz_tupi, Frz_aggi, Frz_ifci, oneCell, WpO_keep1, offV_ptr, offV_nil, blkNe_ptr, blkNe_sc, blkNe_slc, blkNe_eptr, blkNe_agg, blkNe_hsl, AOp.opds, Nat.reduceAdd, WpO_opD, WpO_nil, WpO_callD, WpO_guardD, step, Opd.get, put_app, put_none, ne_eq, reduceCtorEq, not_false_eq_true, not_true_eq_false, implies_true, slcLen, Option.map_some, Option.map_none, Option.bind_some, Option.bind_none, bin, binInt, reduceIte, Nat.reduceEqDiff, List.getD_cons_zero, List.getD_cons_succ, IntKind.signed, indexV, asNat?, loadV, cutCells, unary, evRess, evRes1, oneOrTup, wrapV, target, getsO, List.nil_append, List.append_nil, List.cons_append, Bool.false_eq_true, Bool.true_eq_false, decide_eq_true_eq, Bool.not_eq_true', decide_eq_false_iff_not, Bool.not_true, Bool.not_false, List.take_length, and_true, true_and, Int.ofNat_lt, Int.ofNat_le, Int.natCast_nonneg, Int.toNat_natCast, ge_iff_le, gt_iff_lt, if_true, if_false, List.length_map, decide_true, decide_false, int_beq, int_bne, bne_iff_ne, beq_iff_eq, Int.natCast_inj, Bool.and_eq_true, decide_not, Decidable.not_not, boundO, sliceV, exTo, Nat.zero_le, Nat.le_refl, Bool.or_true, beq_self_eq_true, Option.getD_some, Option.getD_none, List.drop_zero, Nat.sub_zero, and_self, or_true, true_or, or_self, false_or, or_false, and_false, false_and, Cp.isFull, isNil, moveV, Nat.add_zero, Nat.zero_add, Int.reduceLE, Int.reduceLT, Int.reduceEq, Int.reduceBEq, Int.reduceGT, Int.reduceGE, Nat.reduceLT, Nat.reduceLeDiff, e5, e4, e0, bs_size, h1, hb, w1, w2, w3, w4, h2]
      have : ¬ valL l < 2 ^ 63 := by
        have := valL_take_le l (i + 1)
        rw [valL_take l i h1] at this
        omega
      simp [this]
    · have w5 : IntKind.wrap .u64 (10 * (valL (l.take i) : Int)) = ((10 * valL (l.take i) : Nat) : Int) := by rw [wrap_u64 (by omega) (by omega)]; omega
      have w6 : IntKind.wrap .u64 (((10 * valL (l.take i) : Nat) : Int) + ((l[i].toNat - 48 : Nat) : Int)) = ((valL (l.take (i + 1)) : Nat) : Int) := by rw [wrap_u64 (by omega) (by omega), valL_take l i h1]; omega
      simp only [WpC_skip, WpC_ret, WpC_exit, WpC_region, WpC_seqD, WpC_block, WpC_condD, thenC_normal, thenC_ret, thenC_exit, thenQ_normal, thenQ_ret, thenQ_exit, condQ_true, condQ_false, condQ_bool, opQ_some, opQ_none, guardQ_tt, guardQ_tf, guardQ_ft, guardQ_ff, guardQ_no, blockQ_normal, blockQ_ret, blockQ_exit, endP_ret, endP_normal, endI_ret, endI_normal, resQ_some, Frz_sci, Frz_slci, FrzL_nili, FrzL_consi, Frz_tupi, Frz_aggi, Frz_ifci, oneCell, WpO_keep1, offV_ptr, offV_nil, blkNe_ptr, blkNe_sc, blkNe_slc, blkNe_eptr, blkNe_agg, blkNe_hsl, AOp.opds, Nat.reduceAdd, WpO_opD, WpO_nil, WpO_callD, WpO_guardD, step, Opd.get, put_app, put_none, ne_eq, reduceCtorEq, not_false_eq_true, not_true_eq_false, implies_true, slcLen, Option.map_some, Option.map_none, Option.bind_some, Option.bind_none, bin, binInt, reduceIte, Nat.reduceEqDiff, List.getD_cons_zero, List.getD_cons_succ, IntKind.signed, indexV, asNat?, loadV, cutCells, unary, evRess, evRes1, oneOrTup, wrapV, target, getsO, List.nil_append, List.append_nil, List.cons_append, Bool.false_eq_true, Bool.true_eq_false, decide_eq_true_eq, Bool.not_eq_true', decide_eq_false_iff_not, Bool.not_true, Bool.not_false, List.take_length, and_true, true_and, Int.ofNat_lt, Int.ofNat_le, Int.natCast_nonneg, Int.toNat_natCast, ge_iff_le, gt_iff_lt, if_true, if_false, List.length_map, decide_true, decide_false, int_beq, int_bne, bne_iff_ne, beq_iff_eq, Int.natCast_inj, Bool.and_eq_true, decide_not, Decidable.not_not, boundO, sliceV, exTo, Nat.zero_le, Nat.le_refl, Bool.or_true, beq_self_eq_true, Option.getD_some, Option.getD_none, List.drop_zero, Nat.sub_zero, and_self, or_true, true_or, or_self, false_or, or_false, and_false, false_and, Cp.isFull, isNil, moveV, Nat.add_zero, Nat.zero_add, Int.reduceLE, Int.reduceLT, Int.reduceEq, Int.reduceBEq, Int.reduceGT, Int.reduceGE, Nat.reduceLT, Nat.reduceLeDiff, e5, e4, e0, bs_size, h1, hb, w1, w2, w3, w4, w5, w6, h2]
      exact ⟨l.length - (i + 1), by omega, i + 1, rfl, by omega, by rw [wrap_i64 (by omega) (by omega)]; rfl, rfl, by rw [valL_take l i h1]; omega⟩
  · have hll : l.take i = l := List.take_of_length_le (by omega)
    rw [hll] at e4 hv
    have w7 : IntKind.wrap .i64 ((valL l : Nat) : Int) = (valL l : Nat) := wrap_i64 (by omega) (by omega)
    simp only [WpC_skip, WpC_ret, WpC_exit, WpC_region, WpC_seqD, WpC_block, WpC_condD, thenC_normal, thenC_ret, thenC_exit, thenQ_normal, thenQ_ret, thenQ_exit, condQ_true, condQ_false, condQ_bool, opQ_some, opQ_none, guardQ_tt, guardQ_tf, guardQ_ft, guardQ_ff, guardQ_no, blockQ_normal, blockQ_ret, blockQ_exit, endP_ret, endP_normal, endI_ret, endI_normal, resQ_some, Frz_sci, Frz_slci, FrzL_nili, FrzL_consi, Frz_tupi, Frz_aggi, Frz_ifci, oneCell, WpO_keep1, offV_ptr, offV_nil, blkNe_ptr, blkNe_sc, blkNe_slc, blkNe_eptr, blkNe_agg, blkNe_hsl, AOp.opds, Nat.reduceAdd, WpO_opD, WpO_nil, WpO_callD, WpO_guardD, step, Opd.get, put_app, put_none, ne_eq, reduceCtorEq, not_false_eq_true, not_true_eq_false, implies_true, slcLen, Option.map_some, Option.map_none, Option.bind_some, Option.bind_none, bin, binInt, reduceIte, Nat.reduceEqDiff, List.getD_cons_zero, List.getD_cons_succ, IntKind.signed, indexV, asNat?, loadV, cutCells, unary, evRess, evRes1, oneOrTup, wrapV, target, getsO, List.nil_append, List.append_nil, List.cons_append, Bool.false_eq_true, Bool.true_eq_false, decide_eq_true_eq, Bool.not_eq_true', decide_eq_false_iff_not, Bool.not_true, Bool.not_false, List.take_length, and_true, true_and, Int.ofNat_lt, Int.ofNat_le, Int.natCast_nonneg, Int.toNat_natCast, ge_iff_le, gt_iff_lt, if_true, if_false, List.length_map, decide_true, decide_false, int_beq, int_bne, bne_iff_ne, beq_iff_eq, Int.natCast_inj, Bool.and_eq_true, decide_not, Decidable.not_not, boundO, sliceV, exTo, Nat.zero_le, Nat.le_refl, Bool.or_true, beq_self_eq_true, Option.getD_some, Option.getD_none, List.drop_zero, Nat.sub_zero, and_self, or_true, true_or, or_self, false_or, or_false, and_false, false_and, Cp.isFull, isNil, moveV, Nat.add_zero, Nat.zero_add, Int.reduceLE, Int.reduceLT, Int.reduceEq, Int.reduceBEq, Int.reduceGT, Int.reduceGE, Nat.reduceLT, Nat.reduceLeDiff, e5, e4, e0, bs_size, h1, w7, hv]
end Go.Am
end
section
/- Am: strconv.Atoi on digits. -/
set_option linter.unusedSimpArgs false
namespace Go.Am

theorem bs_empty (l : List UInt8) (h : l ≠ []) : ((bs l).toList == (⟨#[]⟩ : ByteArray).toList) = false := by
  rw [empty_list, bs_size]
  simp [h]

theorem parseUint_r {base : Nat} (l : List UInt8) (h : Heap) (hd : ∀ c ∈ l, digitB c.toNat = true) (hne : l ≠ []) (hl : l.length < 2 ^ 30) :
    WpF S0 base k_i_strconv_ParseUint [.sc (.string (bs l)), .sc (.int .i64 (10)), .sc (.int .i64 (0))] h fun v h' =>
      v = (if valL l < 2 ^ 64 then .tup [.sc (.int .u64 (valL l)), .sc .nilIface] else .tup [.sc (.int .u64 18446744073709551615), .ifc 101 (.sc (.int .i64 1))]) ∧ h' = h := by
  refine WpF_pure (A := f_i_strconv_ParseUint) rfl rfl rfl rfl ?_
  simp only [f_i_strconv_ParseUint]
  have c1 : IntKind.wrap .u64 64 = 64 := by decide
  have c2 : IntKind.wrap .u64 (1 * 2 ^ min (Int.toNat 64) (IntKind.bits .u64)) = 0 := by decide
  have c3 : IntKind.wrap .u64 (0 - 1) = 18446744073709551615 := by decide
  have hle : (bs l).size ≤ lim := by rw [bs_size]; unfold lim; omega
  simp only [WpC_skip, WpC_ret, WpC_exit, WpC_region, WpC_seqD, WpC_block, WpC_condD, thenC_normal, thenC_ret, thenC_exit, thenQ_normal, thenQ_ret, thenQ_exit, condQ_true, condQ_false, condQ_bool, opQ_some, opQ_none, guardQ_tt, guardQ_tf, guardQ_ft, guardQ_ff, guardQ_no, blockQ_normal, blockQ_ret, blockQ_exit, endP_ret, endP_normal, endI_ret, endI_normal, resQ_some, Frz_sci, Frz_slci, FrzL_nili, FrzL_consi, Frz_tupi, Frz_aggi, Frz_ifci, oneCell, WpO_keep1, offV_ptr, offV_nil, blkNe_ptr, blkNe_sc, blkNe_slc, blkNe_eptr, blkNe_agg, blkNe_hsl, AOp.opds, Nat.reduceAdd, WpO_opD, WpO_nil, WpO_callD, WpO_guardD, step, Opd.get, put_app, put_none, ne_eq, reduceCtorEq, not_false_eq_true, not_true_eq_false, implies_true, slcLen, Option.map_some, Option.map_none, Option.bind_some, Option.bind_none, bin, binInt, reduceIte, Nat.reduceEqDiff, List.getD_cons_zero, List.getD_cons_succ, IntKind.signed, indexV, asNat?, loadV, cutCells, unary, evRess, evRes1, oneOrTup, wrapV, target, getsO, List.nil_append, List.append_nil, List.cons_append, Bool.false_eq_true, Bool.true_eq_false, decide_eq_true_eq, Bool.not_eq_true', decide_eq_false_iff_not, Bool.not_true, Bool.not_false, List.take_length, and_true, true_and, Int.ofNat_lt, Int.ofNat_le, Int.natCast_nonneg, Int.toNat_natCast, ge_iff_le, gt_iff_lt, if_true, if_false, List.length_map, decide_true, decide_false, int_beq, int_bne, bne_iff_ne, beq_iff_eq, Int.natCast_inj, Bool.and_eq_true, decide_not, Decidable.not_not, boundO, sliceV, exTo, Nat.zero_le, Nat.le_refl, Bool.or_true, beq_self_eq_true, Option.getD_some, Option.getD_none, List.drop_zero, Nat.sub_zero, and_self, or_true, true_or, or_self, false_or, or_false, and_false, false_and, Cp.isFull, isNil, moveV, Nat.add_zero, Nat.zero_add, Int.reduceLE, Int.reduceLT, Int.reduceEq, Int.reduceBEq, Int.reduceGT, Int.reduceGE, Nat.reduceLT, Nat.reduceLeDiff, binStr, bs_empty l hne, c1, c2, c3, hle, bs_out]
  refine WpC_loopI (fun k en h' => ∃ i : Nat, k = l.length - i ∧ i ≤ l.length ∧ en 101 = V.int i ∧ en 100 = V.int l.length ∧ en 99 = .slc .any 1 (l.map bv) ∧ en 13 = .sc (.int .u64 (valL (l.take i))) ∧ valL (l.take i) < 2 ^ 64 ∧ en 10 = .sc (.int .u64 (1844674407370955162)) ∧ en 11 = .sc (.int .u64 18446744073709551615) ∧ en 1 = .sc (.int .i64 (10)) ∧ en 8 = .bool false ∧ en 12 = .bool false ∧ h' = h) l.length ⟨0, rfl, Nat.zero_le _, rfl, rfl, rfl, rfl, by simp [valL], rfl, rfl, rfl, rfl, rfl, rfl⟩ ?_
  rintro k en h' ⟨i, rfl, hi, e101, e100, e99, e13, hv, e10, e11, e1, e8, e12, rfl⟩
  by_cases h1 : i < l.length
  · have hg : (l.map bv)[i]? = some (bv l[i]) := by simp [List.getElem?_map, h1]
    have hdd := digit_le (hd _ (List.getElem_mem h1))
    have n95 : ¬ (l[i].toNat : Int) = 95 := by omega
    have n48 : (48 : Int) ≤ (l[i].toNat : Int) := by omega
    have n57 : (l[i].toNat : Int) ≤ 57 := by omega
    have w1 : IntKind.wrap .u8 ((l[i].toNat : Int) - 48) = ((l[i].toNat - 48 : Nat) : Int) := by rw [wrap_u8 (by omega) (by omega)]; omega
    have w2 : IntKind.wrap .u64 ((l[i].toNat - 48 : Nat) : Int) = ((l[i].toNat - 48 : Nat) : Int) := wrap_u64 (by omega) (by omega)
    have w3 : IntKind.wrap .u8 10 = 10 := by decide
    have w4 : IntKind.wrap .u64 10 = 10 := by decide
    have n10 : ¬ (10 : Int) ≤ ((l[i].toNat - 48 : Nat) : Int) := by omega
    have hvt := valL_take l i h1
    have hvl := valL_take_le l (i + 1)
    by_cases h2 : 1844674407370955162 ≤ valL (l.take i)
    · have h2' : (1844674407370955162 : Int) ≤ (valL (l.take i) : Int) := by omega
      have hno : ¬ valL l < 2 ^ 64 := by omega
      simp only [WpC_skip, WpC_ret, WpC_exit, WpC_region, WpC_seqD, WpC_block, WpC_condD, thenC_normal, thenC_ret, thenC_exit, thenQ_normal, thenQ_ret, thenQ_exit, condQ_true, condQ_false, condQ_bool, opQ_some, opQ_none, guardQ_tt, guardQ_tf, guardQ_ft, guardQ_ff, guardQ_no, blockQ_normal, blockQ_ret, blockQ_exit, endP_ret, endP_normal, endI_ret, endI_normal, resQ_some, Frz_sci, Frz_slci, FrzL_nili, FrzL_consi, Frz_tupi, Frz_aggi, Frz_ifci, oneCell, WpO_keep1, offV_ptr, offV_nil, blkNe_ptr, blkNe_sc, blkNe_slc, blkNe_eptr, blkNe_agg, blkNe_hsl, AOp.opds, Nat.reduceAdd, WpO_opD, WpO_nil, WpO_callD, WpO_guardD, step, Opd.get, put_app, put_none, ne_eq, reduceCtorEq, not_false_eq_true, not_true_eq_false, implies_true, slcLen, Option.map_some, Option.map_none, Option.bind_some, Option.bind_none, bin, binInt, reduceIte, Nat.reduceEqDiff, List.getD_cons_zero, List.getD_cons_succ, IntKind.signed, indexV, asNat?, loadV, cutCells, unary, evRess, evRes1, oneOrTup, wrapV, target, getsO, List.nil_append, List.append_nil, List.cons_append, Bool.false_eq_true, Bool.true_eq_false, decide_eq_true_eq, Bool.not_eq_true', decide_eq_false_iff_not, Bool.not_true, Bool.not_false, List.take_length, and_true, true_and, Int.ofNat_lt, Int.ofNat_le, Int.natCast_nonneg, Int.toNat_natCast, ge_iff_le, gt_iff_lt, if_true, if_false, List.length_map, decide_true, decide_false, int_beq, int_bne, bne_iff_ne, beq_iff_eq, Int.natCast_inj, Bool.and_eq_true, decide_not, Decidable.not_not, boundO, sliceV, exTo, Nat.zero_le, Nat.le_refl, Bool.or_true, beq_self_eq_true, Option.getD_some, Option.getD_none, List.drop_zero, Nat.sub_zero, and_self, or_true, true_or, or_self, false_or, or_false, and_false, false_and, Cp.isFull, isNil, moveV, Nat.add_zero, Nat.zero_add, Int.reduceLE, Int.reduceLT, Int.reduceEq, Int.reduceBEq, Int.reduceGT, Int.reduceGE, Nat.reduceLT, Nat.reduceLeDiff, e101, e100, e99, e13, e10, e11, e1, e8, e12, h1, hg, List.getElem?_cons_zero, n95, n48, n57, w1, w2, w3, w4, n10, h2', hno]
    · have h2' : ¬ (1844674407370955162 : Int) ≤ (valL (l.take i) : Int) := by omega
      have w5 : IntKind.wrap .u64 ((valL (l.take i) : Int) * 10) = ((10 * valL (l.take i) : Nat) : Int) := by rw [wrap_u64 (by omega) (by omega)]; omega
      by_cases h3 : valL (l.take (i + 1)) < 2 ^ 64
      · have w6 : IntKind.wrap .u64 (((10 * valL (l.take i) : Nat) : Int) + ((l[i].toNat - 48 : Nat) : Int)) = ((valL (l.take (i + 1)) : Nat) : Int) := by rw [wrap_u64 (by omega) (by omega)]; omega
        have n1 : ¬ (valL (l.take (i + 1)) < 10 * valL (l.take i)) := by omega
        have n2 : ¬ (18446744073709551615 : Int) < ((valL (l.take (i + 1)) : Nat) : Int) := by omega
        simp only [WpC_skip, WpC_ret, WpC_exit, WpC_region, WpC_seqD, WpC_block, WpC_condD, thenC_normal, thenC_ret, thenC_exit, thenQ_normal, thenQ_ret, thenQ_exit, condQ_true, condQ_false, condQ_bool, opQ_some, opQ_none, guardQ_tt, guardQ_tf, guardQ_ft, guardQ_ff, guardQ_no, blockQ_normal, blockQ_ret, blockQ_exit, endP_ret, endP_normal, endI_ret, endI_normal, resQ_some, Frz_sci, Frz_slci, FrzL_nili, FrzL_consi, Frz_tupi, Frz_aggi, Frz_ifci, oneCell, WpO_keep1, offV_ptr, offV_nil, blkNe_ptr, blkNe_sc, blkNe_slc, blkNe_eptr, blkNe_agg, blkNe_hsl, AOp.opds, Nat.reduceAdd, WpO_opD, WpO_nil, WpO_callD, WpO_guardD, step, Opd.get, put_app, put_none, ne_eq, reduceCtorEq, not_false_eq_true, not_true_eq_false, implies_true, slcLen, Option.map_some, Option.map_none, Option.bind_some, Option.bind_none, bin, binInt, reduceIte, Nat.reduceEqDiff, List.getD_cons_zero, List.getD_cons_succ, IntKind.signed, indexV, asNat?, loadV, cutCells, unary, evRess, evRes1, oneOrTup, wrapV, target, getsO, List.nil_append, List.append_nil, List.cons_append, Bool.false_eq_true, Bool.true_eq_false, decide_eq_true_eq, Bool.not_eq_true', decide_eq_false_iff_not, Bool.not_true, Bool.not_false, List.take_length, and_true, true_and, Int.ofNat_lt, Int.ofNat_le, Int.natCast_nonneg, Int.toNat_natCast, ge_iff_le, gt_iff_lt, if_true, if_false, List.length_map, decide_true, decide_false, int_beq, int_bne, bne_iff_ne, beq_iff_eq, Int.natCast_inj, Bool.and_eq_true, decide_not, Decidable.not_not, boundO, sliceV, exTo, Nat.zero_le, Nat.le_refl, Bool.or_true, beq_self_eq_true, Option.getD_some, Option.getD_none, List.drop_zero, Nat.sub_zero, and_self, or_true, true_or, or_self, false_or, or_false, and_false, false_and, Cp.isFull, isNil, moveV, Nat.add_zero, Nat.zero_add, Int.reduceLE, Int.reduceLT, Int.reduceEq, Int.reduceBEq, Int.reduceGT, Int.reduceGE, Nat.reduceLT, Nat.reduceLeDiff, e101, e100, e99, e13, e10, e11, e1, e8, e12, h1, hg, List.getElem?_cons_zero, n95, n48, n57, w1, w2, w3, w4, n10, h2', w5, w6, n1, n2]
        exact ⟨l.length - (i + 1), by omega, i + 1, rfl, by omega, by rw [wrap_i64 (by omega) (by omega)]; rfl, rfl, h3⟩
      · have w6 : IntKind.wrap .u64 (((10 * valL (l.take i) : Nat) : Int) + ((l[i].toNat - 48 : Nat) : Int)) = ((valL (l.take (i + 1)) - 2 ^ 64 : Nat) : Int) := by
          have : (((10 * valL (l.take i) : Nat) : Int) + ((l[i].toNat - 48 : Nat) : Int)) = ((valL (l.take (i + 1)) : Nat) : Int) := by omega
          rw [this]
          simp [IntKind.wrap, IntKind.signed, IntKind.bits]
          omega
        have n1 : valL (l.take (i + 1)) - 2 ^ 64 < 10 * valL (l.take i) := by omega
        have hno : ¬ valL l < 2 ^ 64 := by omega
        simp only [WpC_skip, WpC_ret, WpC_exit, WpC_region, WpC_seqD, WpC_block, WpC_condD, thenC_normal, thenC_ret, thenC_exit, thenQ_normal, thenQ_ret, thenQ_exit, condQ_true, condQ_false, condQ_bool, opQ_some, opQ_none, guardQ_tt, guardQ_tf, guardQ_ft, guardQ_ff, guardQ_no, blockQ_normal, blockQ_ret, blockQ_exit, endP_ret, endP_normal, endI_ret, endI_normal, resQ_some, Frz_sci, Frz_slci, FrzL_nili, FrzL_consi, Frz_tupi, Frz_aggi, Frz_ifci, oneCell, WpO_keep1, offV_ptr, offV_nil, blkNe_ptr, blkNe_sc, blkNe_slc, blkNe_eptr, blkNe_agg, blkNe_hsl, AOp.opds, Nat.reduceAdd, WpO_opD, WpO_nil, WpO_callD, WpO_guardD, step, Opd.get, put_app, put_none, ne_eq, reduceCtorEq, not_false_eq_true, not_true_eq_false, implies_true, slcLen, Option.map_some, Option.map_none, Option.bind_some, Option.bind_none, bin, binInt, reduceIte, Nat.reduceEqDiff, List.getD_cons_zero, List.getD_cons_succ, IntKind.signed, indexV, asNat?, loadV, cutCells, unary, evRess, evRes1, oneOrTup, wrapV, target, getsO, List.nil_append, List.append_nil, List.cons_append, Bool.false_eq_true, Bool.true_eq_false, decide_eq_true_eq, Bool.not_eq_true', decide_eq_false_iff_not, Bool.not_true, Bool.not_false, List.take_length, and_true, true_and, Int.ofNat_lt, Int.ofNat_le, Int.natCast_nonneg, Int.toNat_natCast, ge_iff_le, gt_iff_lt, if_true, if_false, List.length_map, decide_true, decide_false, int_beq, int_bne, bne_iff_ne, beq_iff_eq, Int.natCast_inj, Bool.and_eq_true, decide_not, Decidable.not_not, boundO, sliceV, exTo, Nat.zero_le, Nat.le_refl, Bool.or_true, beq_self_eq_true, Option.getD_some, Option.getD_none, List.drop_zero, Nat.sub_zero, and_self, or_true, true_or, or_self, false_or, or_false, and_false, false_and, Cp.isFull, isNil, moveV, Nat.add_zero, Nat.zero_add, Int.reduceLE, Int.reduceLT, Int.reduceEq, Int.reduceBEq, Int.reduceGT, Int.reduceGE, Nat.reduceLT, Nat.reduceLeDiff, e101, e100, e99, e13, e10, e11, e1, e8, e12, h1, hg, List.getElem?_cons_zero, n95, n48, n57, w1, w2, w3, w4, n10, h2', w5, w6, n1, hno]
  · have hll : l.take i = l := List.take_of_length_le (by omega)
    rw [hll] at e13 hv
    simp only [WpC_skip, WpC_ret, WpC_exit, WpC_region, WpC_seqD, WpC_block, WpC_condD, thenC_normal, thenC_ret, thenC_exit, thenQ_normal, thenQ_ret, thenQ_exit, condQ_true, condQ_false, condQ_bool, opQ_some, opQ_none, guardQ_tt, guardQ_tf, guardQ_ft, guardQ_ff, guardQ_no, blockQ_normal, blockQ_ret, blockQ_exit, endP_ret, endP_normal, endI_ret, endI_normal, resQ_some, Frz_sci, Frz_slci, FrzL_nili, FrzL_consi, Frz_tupi, Frz_aggi, Frz_ifci, oneCell, WpO_keep1, offV_ptr, offV_nil, blkNe_ptr, blkNe_sc, blkNe_slc, blkNe_eptr, blkNe_agg, blkNe_hsl, AOp.opds, Nat.reduceAdd, WpO_opD, WpO_nil, WpO_callD, WpO_guardD, step, Opd.get, put_app, put_none, ne_eq, reduceCtorEq, not_false_eq_true, not_true_eq_false, implies_true, slcLen, Option.map_some, Option.map_none, Option.bind_some, Option.bind_none, bin, binInt, reduceIte, Nat.reduceEqDiff, List.getD_cons_zero, List.getD_cons_succ, IntKind.signed, indexV, asNat?, loadV, cutCells, unary, evRess, evRes1, oneOrTup, wrapV, target, getsO, List.nil_append, List.append_nil, List.cons_append, Bool.false_eq_true, Bool.true_eq_false, decide_eq_true_eq, Bool.not_eq_true', decide_eq_false_iff_not, Bool.not_true, Bool.not_false, List.take_length, and_true, true_and, Int.ofNat_lt, Int.ofNat_le, Int.natCast_nonneg, Int.toNat_natCast, ge_iff_le, gt_iff_lt, if_true, if_false, List.length_map, decide_true, decide_false, int_beq, int_bne, bne_iff_ne, beq_iff_eq, Int.natCast_inj, Bool.and_eq_true, decide_not, Decidable.not_not, boundO, sliceV, exTo, Nat.zero_le, Nat.le_refl, Bool.or_true, beq_self_eq_true, Option.getD_some, Option.getD_none, List.drop_zero, Nat.sub_zero, and_self, or_true, true_or, or_self, false_or, or_false, and_false, false_and, Cp.isFull, isNil, moveV, Nat.add_zero, Nat.zero_add, Int.reduceLE, Int.reduceLT, Int.reduceEq, Int.reduceBEq, Int.reduceGT, Int.reduceGE, Nat.reduceLT, Nat.reduceLeDiff, e101, e100, e99, e13, e12, h1, hv]

theorem parseInt_r {base : Nat} (l : List UInt8) (h : Heap) (hd : ∀ c ∈ l, digitB c.toNat = true) (hne : l ≠ []) (hl : l.length < 2 ^ 30) :
    WpF S0 base k_i_strconv_ParseInt [.sc (.string (bs l)), .sc (.int .i64 (10)), .sc (.int .i64 (0))] h fun v h' =>
      v = (if valL l < 2 ^ 63 then .tup [V.int (valL l), .sc .nilIface] else .tup [V.int 9223372036854775807, .ifc 101 (.sc (.int .i64 1))]) ∧ h' = h := by
  refine WpF_pure (A := f_i_strconv_ParseInt) rfl rfl rfl rfl ?_
  simp only [f_i_strconv_ParseInt]
  obtain ⟨c, r, rfl⟩ : ∃ c r, l = c :: r := by
    cases l with
    | nil => exact absurd rfl hne
    | cons c r => exact ⟨c, r, rfl⟩
  have hb : (bs (c :: r))[0]? = some c := by rw [bs_at]; rfl
  have hdd := digit_le (hd c (List.mem_cons_self ..))
  have n43 : ¬ (c.toNat : Int) = 43 := by omega
  have n45 : ¬ (c.toNat : Int) = 45 := by omega
  have c1 : IntKind.wrap .i64 (64 - 1) = 63 := by decide
  have c2 : IntKind.wrap .u64 63 = 63 := by decide
  have c3 : IntKind.wrap .u64 (1 * 2 ^ min (Int.toNat 63) (IntKind.bits .u64)) = 9223372036854775808 := by decide
  have c4 : IntKind.wrap .u64 (9223372036854775808 - 1) = 9223372036854775807 := by decide
  have c5 : IntKind.wrap .i64 9223372036854775807 = 9223372036854775807 := by decide
  have cp := parseUint_r (base := h.length) (c :: r) h hd hne hl
  by_cases h4 : valL (c :: r) < 2 ^ 64
  · rw [if_pos h4] at cp
    by_cases h3 : valL (c :: r) < 2 ^ 63
    · have n1 : ¬ (9223372036854775808 : Int) ≤ ((valL (c :: r) : Nat) : Int) := by omega
      have w1 : IntKind.wrap .i64 ((valL (c :: r) : Nat) : Int) = (valL (c :: r) : Nat) := wrap_i64 (by omega) (by omega)
      simp only [WpC_skip, WpC_ret, WpC_exit, WpC_region, WpC_seqD, WpC_block, WpC_condD, thenC_normal, thenC_ret, thenC_exit, thenQ_normal, thenQ_ret, thenQ_exit, condQ_true, condQ_false, condQ_bool, opQ_some, opQ_none, guardQ_tt, guardQ_tf, guardQ_ft, guardQ_ff, guardQ_no, blockQ_normal, blockQ_ret, blockQ_exit, endP_ret, endP_normal, endI_ret, endI_normal, resQ_some, Frz_sci, Frz_slci, FrzL_nili, FrzL_consi, Frz_tupi, Frz_aggi, Frz_ifci, oneCell, WpO_keep1, offV_ptr, offV_nil, blkNe_ptr, blkNe_sc, blkNe_slc, blkNe_eptr, blkNe_agg, blkNe_hsl, AOp.opds, Nat.reduceAdd, WpO_opD, WpO_nil, WpO_callD, WpO_guardD, step, Opd.get, put_app, put_none, ne_eq, reduceCtorEq, not_false_eq_true, not_true_eq_false, implies_true, slcLen, Option.map_some, Option.map_none, Option.bind_some, Option.bind_none, bin, binInt, reduceIte, Nat.reduceEqDiff, List.getD_cons_zero, List.getD_cons_succ, IntKind.signed, indexV, asNat?, loadV, cutCells, unary, evRess, evRes1, oneOrTup, wrapV, target, getsO, List.nil_append, List.append_nil, List.cons_append, Bool.false_eq_true, Bool.true_eq_false, decide_eq_true_eq, Bool.not_eq_true', decide_eq_false_iff_not, Bool.not_true, Bool.not_false, List.take_length, and_true, true_and, Int.ofNat_lt, Int.ofNat_le, Int.natCast_nonneg, Int.toNat_natCast, ge_iff_le, gt_iff_lt, if_true, if_false, List.length_map, decide_true, decide_false, int_beq, int_bne, bne_iff_ne, beq_iff_eq, Int.natCast_inj, Bool.and_eq_true, decide_not, Decidable.not_not, boundO, sliceV, exTo, Nat.zero_le, Nat.le_refl, Bool.or_true, beq_self_eq_true, Option.getD_some, Option.getD_none, List.drop_zero, Nat.sub_zero, and_self, or_true, true_or, or_self, false_or, or_false, and_false, false_and, Cp.isFull, isNil, moveV, Nat.add_zero, Nat.zero_add, Int.reduceLE, Int.reduceLT, Int.reduceEq, Int.reduceBEq, Int.reduceGT, Int.reduceGE, Nat.reduceLT, Nat.reduceLeDiff, binStr, bs_empty _ hne, hb, Int.toNat_zero, n43, n45, callD_ret cp, List.getElem?_cons_zero, List.getElem?_cons_succ, c1, c2, c3, c4, c5, n1, w1, h3]
    · have n1 : (9223372036854775808 : Int) ≤ ((valL (c :: r) : Nat) : Int) := by omega
      simp only [WpC_skip, WpC_ret, WpC_exit, WpC_region, WpC_seqD, WpC_block, WpC_condD, thenC_normal, thenC_ret, thenC_exit, thenQ_normal, thenQ_ret, thenQ_exit, condQ_true, condQ_false, condQ_bool, opQ_some, opQ_none, guardQ_tt, guardQ_tf, guardQ_ft, guardQ_ff, guardQ_no, blockQ_normal, blockQ_ret, blockQ_exit, endP_ret, endP_normal, endI_ret, endI_normal, resQ_some, Frz_sci, Frz_slci, FrzL_nili, FrzL_consi, Frz_tupi, Frz_aggi, Frz_ifci, oneCell, WpO_keep1, offV_ptr, offV_nil, blkNe_ptr, blkNe_sc, blkNe_slc, blkNe_eptr, blkNe_agg, blkNe_hsl, AOp.opds, Nat.reduceAdd, WpO_opD, WpO_nil, WpO_callD, WpO_guardD, step, Opd.get, put_app, put_none, ne_eq, reduceCtorEq, not_false_eq_true, not_true_eq_false, implies_true, slcLen, Option.map_some, Option.map_none, Option.bind_some, Option.bind_none, bin, binInt, reduceIte, Nat.reduceEqDiff, List.getD_cons_zero, List.getD_cons_succ, IntKind.signed, indexV, asNat?, loadV, cutCells, unary, evRess, evRes1, oneOrTup, wrapV, target, getsO, List.nil_append, List.append_nil, List.cons_append, Bool.false_eq_true, Bool.true_eq_false, decide_eq_true_eq, Bool.not_eq_true', decide_eq_false_iff_not, Bool.not_true, Bool.not_false, List.take_length, and_true, true_and, Int.ofNat_lt, Int.ofNat_le, Int.natCast_nonneg, Int.toNat_natCast, ge_iff_le, gt_iff_lt, if_true, if_false, List.length_map, decide_true, decide_false, int_beq, int_bne, bne_iff_ne, beq_iff_eq, Int.natCast_inj, Bool.and_eq_true, decide_not, Decidable.not_not, boundO, sliceV, exTo, Nat.zero_le, Nat.le_refl, Bool.or_true, beq_self_eq_true, Option.getD_some, Option.getD_none, List.drop_zero, Nat.sub_zero, and_self, or_true, true_or, or_self, false_or, or_false, and_false, false_and, Cp.isFull, isNil, moveV, Nat.add_zero, Nat.zero_add, Int.reduceLE, Int.reduceLT, Int.reduceEq, Int.reduceBEq, Int.reduceGT, Int.reduceGE, Nat.reduceLT, Nat.reduceLeDiff, binStr, bs_empty _ hne, hb, Int.toNat_zero, n43, n45, callD_ret cp, List.getElem?_cons_zero, List.getElem?_cons_succ, c1, c2, c3, c4, c5, n1, h3]
  · rw [if_neg h4] at cp
    have h3 : ¬ valL (c :: r) < 2 ^ 63 := by omega
    have el : List.lookup 101 [(6, LK.i), (30, .i), (101, .i), (149, .i), (150, .i), (152, .i), (153, .i)] = some LK.i := rfl
    simp only [WpC_skip, WpC_ret, WpC_exit, WpC_region, WpC_seqD, WpC_block, WpC_condD, thenC_normal, thenC_ret, thenC_exit, thenQ_normal, thenQ_ret, thenQ_exit, condQ_true, condQ_false, condQ_bool, opQ_some, opQ_none, guardQ_tt, guardQ_tf, guardQ_ft, guardQ_ff, guardQ_no, blockQ_normal, blockQ_ret, blockQ_exit, endP_ret, endP_normal, endI_ret, endI_normal, resQ_some, Frz_sci, Frz_slci, FrzL_nili, FrzL_consi, Frz_tupi, Frz_aggi, Frz_ifci, oneCell, WpO_keep1, offV_ptr, offV_nil, blkNe_ptr, blkNe_sc, blkNe_slc, blkNe_eptr, blkNe_agg, blkNe_hsl, AOp.opds, Nat.reduceAdd, WpO_opD, WpO_nil, WpO_callD, WpO_guardD, step, Opd.get, put_app, put_none, ne_eq, reduceCtorEq, not_false_eq_true, not_true_eq_false, implies_true, slcLen, Option.map_some, Option.map_none, Option.bind_some, Option.bind_none, bin, binInt, reduceIte, Nat.reduceEqDiff, List.getD_cons_zero, List.getD_cons_succ, IntKind.signed, indexV, asNat?, loadV, cutCells, unary, evRess, evRes1, oneOrTup, wrapV, target, getsO, List.nil_append, List.append_nil, List.cons_append, Bool.false_eq_true, Bool.true_eq_false, decide_eq_true_eq, Bool.not_eq_true', decide_eq_false_iff_not, Bool.not_true, Bool.not_false, List.take_length, and_true, true_and, Int.ofNat_lt, Int.ofNat_le, Int.natCast_nonneg, Int.toNat_natCast, ge_iff_le, gt_iff_lt, if_true, if_false, List.length_map, decide_true, decide_false, int_beq, int_bne, bne_iff_ne, beq_iff_eq, Int.natCast_inj, Bool.and_eq_true, decide_not, Decidable.not_not, boundO, sliceV, exTo, Nat.zero_le, Nat.le_refl, Bool.or_true, beq_self_eq_true, Option.getD_some, Option.getD_none, List.drop_zero, Nat.sub_zero, and_self, or_true, true_or, or_self, false_or, or_false, and_false, false_and, Cp.isFull, isNil, moveV, Nat.add_zero, Nat.zero_add, Int.reduceLE, Int.reduceLT, Int.reduceEq, Int.reduceBEq, Int.reduceGT, Int.reduceGE, Nat.reduceLT, Nat.reduceLeDiff, binStr, bs_empty _ hne, hb, Int.toNat_zero, n43, n45, callD_ret cp, List.getElem?_cons_zero, List.getElem?_cons_succ, sameIfc, el, eqCell, c1, c2, c3, c4, c5, h3]
end Go.Am
end
section
/- Am: strconv.Atoi on digits: what it hands back. -/
set_option linter.unusedSimpArgs false
namespace Go.Am

theorem iAtoi_r {base : Nat} (l : List UInt8) (h : Heap) (hd : ∀ c ∈ l, digitB c.toNat = true) (hne : l ≠ []) (hl : l.length < 2 ^ 30) :
    WpF S0 base k_i_strconv_Atoi [.sc (.string (bs l))] h fun v h' =>
      v = (if valL l < 2 ^ 63 then .tup [V.int (valL l), .sc .nilIface] else .tup [V.int 9223372036854775807, .ifc 101 (.sc (.int .i64 1))]) ∧ h' = h := by
  refine WpF_pure (A := f_i_strconv_Atoi) rfl rfl rfl rfl ?_
  simp only [f_i_strconv_Atoi]
  have hpos : 0 < l.length := List.length_pos_iff.2 hne
  obtain ⟨c, hc0⟩ : ∃ c, l[0]? = some c := ⟨l[0], List.getElem?_eq_getElem hpos⟩
  have hb : (bs l)[0]? = some c := by rw [bs_at]; exact hc0
  have hdd := digit_le (hd c (List.mem_of_getElem? hc0))
  have n43 : ¬ (c.toNat : Int) = 43 := by omega
  have n45 : ¬ (c.toNat : Int) = 45 := by omega
  by_cases h19 : l.length < 19
  · have h19' : (l.length : Int) < 19 := by omega
    have hpos' : (0 : Int) < l.length := by omega
    have hle : l.length ≤ lim := by unfold lim; omega
    have hvl := valL_lt l hd
    have hlim : ∀ i, i ≤ l.length → valL (l.take i) < 10 ^ 18 := fun i hi => Nat.lt_of_lt_of_le (hvl i hi) (Nat.pow_le_pow_right (by decide) (by omega))
    simp only [WpC_skip, WpC_ret, WpC_exit, WpC_region, WpC_seqD, WpC_block, WpC_condD, thenC_normal, thenC_ret, thenC_exit, thenQ_normal, thenQ_ret, thenQ_exit, condQ_true, condQ_false, condQ_bool, opQ_some, opQ_none, guardQ_tt, guardQ_tf, guardQ_ft, guardQ_ff, guardQ_no, blockQ_normal, blockQ_ret, blockQ_exit, endP_ret, endP_normal, endI_ret, endI_normal, resQ_some, Frz_sci, Frz_slci, FrzL_nili, FrzL_consi, Frz_tupi, Frz_aggi, Frz_ifci, oneCell, WpO_keep1, offV_ptr, offV_nil, blkNe_ptr, blkNe_sc, blkNe_slc, blkNe_eptr, blkNe_agg, blkNe_hsl, AOp.opds, Nat.reduceAdd, WpO_opD, WpO_nil, WpO_callD, WpO_guardD, step, Opd.get, put_app, put_none, ne_eq, reduceCtorEq, not_false_eq_true, not_true_eq_false, implies_true, slcLen, Option.map_some, Option.map_none, Option.bind_some, Option.bind_none, bin, binInt, reduceIte, Nat.reduceEqDiff, List.getD_cons_zero, List.getD_cons_succ, IntKind.signed, indexV, asNat?, loadV, cutCells, unary, evRess, evRes1, oneOrTup, wrapV, target, getsO, List.nil_append, List.append_nil, List.cons_append, Bool.false_eq_true, Bool.true_eq_false, decide_eq_true_eq, Bool.not_eq_true', decide_eq_false_iff_not, Bool.not_true, Bool.not_false, List.take_length, and_true, true_and, Int.ofNat_lt, Int.ofNat_le, Int.natCast_nonneg, Int.toNat_natCast, ge_iff_le, gt_iff_lt, if_true, if_false, List.length_map, decide_true, decide_false, int_beq, int_bne, bne_iff_ne, beq_iff_eq, Int.natCast_inj, Bool.and_eq_true, decide_not, Decidable.not_not, boundO, sliceV, exTo, Nat.zero_le, Nat.le_refl, Bool.or_true, beq_self_eq_true, Option.getD_some, Option.getD_none, List.drop_zero, Nat.sub_zero, and_self, or_true, true_or, or_self, false_or, or_false, and_false, false_and, Cp.isFull, isNil, moveV, Nat.add_zero, Nat.zero_add, Int.reduceLE, Int.reduceLT, Int.reduceEq, Int.reduceBEq, Int.reduceGT, Int.reduceGE, Nat.reduceLT, Nat.reduceLeDiff, bs_size, hpos, h19', hpos', hle, hb, n43, n45, bs_out, Int.toNat_zero]
    refine WpC_loopI (fun k en h' => ∃ i : Nat, k = l.length - i ∧ i ≤ l.length ∧ en 49 = V.int i ∧ en 48 = V.int l.length ∧ en 47 = .slc .any 1 (l.map bv) ∧ en 6 = .sc (.int .i64 (valL (l.take i))) ∧ en 5 = .sc (.string (bs l)) ∧ h' = h) l.length ⟨0, rfl, Nat.zero_le _, rfl, rfl, rfl, rfl, rfl, rfl⟩ ?_
    rintro k en h' ⟨i, rfl, hi, e49, e48, e47, e6, e5, rfl⟩
    by_cases h1 : i < l.length
    · have hg : (l.map bv)[i]? = some (bv l[i]) := by simp [List.getElem?_map, h1]
      have hdi := digit_le (hd _ (List.getElem_mem h1))
      have hvt := valL_take l i h1
      have hv1 := hlim i hi
      have hv2 := hlim (i + 1) h1
      have w1 : IntKind.wrap .u8 ((l[i].toNat : Int) - 48) = ((l[i].toNat - 48 : Nat) : Int) := by rw [wrap_u8 (by omega) (by omega)]; omega
      have w2 : IntKind.wrap .i64 ((l[i].toNat - 48 : Nat) : Int) = ((l[i].toNat - 48 : Nat) : Int) := wrap_i64 (by omega) (by omega)
      have w3 : IntKind.wrap .i64 ((valL (l.take i) : Int) * 10) = ((10 * valL (l.take i) : Nat) : Int) := by rw [wrap_i64 (by omega) (by omega)]; omega
      have w4 : IntKind.wrap .i64 (((10 * valL (l.take i) : Nat) : Int) + ((l[i].toNat - 48 : Nat) : Int)) = ((valL (l.take (i + 1)) : Nat) : Int) := by rw [wrap_i64 (by omega) (by omega)]; omega
      have n9 : ¬ (9 : Int) < ((l[i].toNat - 48 : Nat) : Int) := by omega
      simp only [WpC_skip, WpC_ret, WpC_exit, WpC_region, WpC_seqD, WpC_block, WpC_condD, thenC_normal, thenC_ret, thenC_exit, thenQ_normal, thenQ_ret, thenQ_exit, condQ_true, condQ_false, condQ_bool, opQ_some, opQ_none, guardQ_tt, guardQ_tf, guardQ_ft, guardQ_ff, guardQ_no, blockQ_normal, blockQ_ret, blockQ_exit, endP_ret, endP_normal, endI_ret, endI_normal, resQ_some, Frz_sci, Frz_slci, FrzL_nili, FrzL_consi, Frz_tupi, Frz_aggi, Frz_ifci, oneCell, WpO_keep1, offV_ptr, offV_nil, blkNe_ptr, blkNe_sc, blkNe_slc, blkNe_eptr, blkNe_agg, blkNe_hsl, AOp.opds, Nat.reduceAdd, WpO_opD, WpO_nil, WpO_callD, WpO_guardD, step, Opd.get, put_app, put_none, ne_eq, reduceCtorEq, not_false_eq_true, not_true_eq_false, implies_true, slcLen, Option.map_some, Option.map_none, Option.bind_some, Option.bind_none, bin, binInt, reduceIte, Nat.reduceEqDiff, List.getD_cons_zero, List.getD_cons_succ, IntKind.signed, indexV, asNat?, loadV, cutCells, unary, evRess, evRes1, oneOrTup, wrapV, target, getsO, List.nil_append, List.append_nil, List.cons_append, Bool.false_eq_true, Bool.true_eq_false, decide_eq_true_eq, Bool.not_eq_true', decide_eq_false_iff_not, Bool.not_true, Bool.not_false, List.take_length, and_true, true_and, Int.ofNat_lt, Int.ofNat_le, Int.natCast_nonneg, Int.toNat_natCast, ge_iff_le, gt_iff_lt, if_true, if_false, List.length_map, decide_true, decide_false, int_beq, int_bne, bne_iff_ne, beq_iff_eq, Int.natCast_inj, Bool.and_eq_true, decide_not, Decidable.not_not, boundO, sliceV, exTo, Nat.zero_le, Nat.le_refl, Bool.or_true, beq_self_eq_true, Option.getD_some, Option.getD_none, List.drop_zero, Nat.sub_zero, and_self, or_true, true_or, or_self, false_or, or_false, and_false, false_and, Cp.isFull, isNil, moveV, Nat.add_zero, Nat.zero_add, Int.reduceLE, Int.reduceLT, Int.reduceEq, Int.reduceBEq, Int.reduceGT, Int.reduceGE, Nat.reduceLT, Nat.reduceLeDiff, e49, e48, e47, e6, e5, h1, hg, List.getElem?_cons_zero, w1, w2, w3, w4, n9]
      exact ⟨l.length - (i + 1), by omega, i + 1, rfl, by omega, by rw [wrap_i64 (by omega) (by omega)]; rfl, rfl⟩
    · have hll : l.take i = l := List.take_of_length_le (by omega)
      have hv : valL l < 2 ^ 63 := by
        have := hlim l.length (Nat.le_refl _)
        rw [List.take_length] at this
        omega
      rw [hll] at e6
      simp only [WpC_skip, WpC_ret, WpC_exit, WpC_region, WpC_seqD, WpC_block, WpC_condD, thenC_normal, thenC_ret, thenC_exit, thenQ_normal, thenQ_ret, thenQ_exit, condQ_true, condQ_false, condQ_bool, opQ_some, opQ_none, guardQ_tt, guardQ_tf, guardQ_ft, guardQ_ff, guardQ_no, blockQ_normal, blockQ_ret, blockQ_exit, endP_ret, endP_normal, endI_ret, endI_normal, resQ_some, Frz_sci, Frz_slci, FrzL_nili, FrzL_consi, Frz_tupi, Frz_aggi, Frz_ifci, oneCell, WpO_keep1, offV_ptr, offV_nil, blkNe_ptr, blkNe_sc, blkNe_slc, blkNe_eptr, blkNe_agg, blkNe_hsl, AOp.opds, Nat.reduceAdd, WpO_opD, WpO_nil, WpO_callD, WpO_guardD, step, Opd.get, put_app, put_none, ne_eq, reduceCtorEq, not_false_eq_true, not_true_eq_false, implies_true, slcLen, Option.map_some, Option.map_none, Option.bind_some, Option.bind_none, bin, binInt, reduceIte, Nat.reduceEqDiff, List.getD_cons_zero, List.getD_cons_succ, IntKind.signed, indexV, asNat?, loadV, cutCells, unary, evRess, evRes1, oneOrTup, wrapV, target, getsO, List.nil_append, List.append_nil, List.cons_append, Bool.false_eq_true, Bool.true_eq_false, decide_eq_true_eq, Bool.not_eq_true', decide_eq_false_iff_not, Bool.not_true, Bool.not_false, List.take_length, and_true, true_and, Int.ofNat_lt, Int.ofNat_le, Int.natCast_nonneg, Int.toNat_natCast, ge_iff_le, gt_iff_lt, if_true, if_false, List.length_map, decide_true, decide_false, int_beq, int_bne, bne_iff_ne, beq_iff_eq, Int.natCast_inj, Bool.and_eq_true, decide_not, Decidable.not_not, boundO, sliceV, exTo, Nat.zero_le, Nat.le_refl, Bool.or_true, beq_self_eq_true, Option.getD_some, Option.getD_none, List.drop_zero, Nat.sub_zero, and_self, or_true, true_or, or_self, false_or, or_false, and_false, false_and, Cp.isFull, isNil, moveV, Nat.add_zero, Nat.zero_add, Int.reduceLE, Int.reduceLT, Int.reduceEq, Int.reduceBEq, Int.reduceGT, Int.reduceGE, Nat.reduceLT, Nat.reduceLeDiff, e49, e48, e47, e6, e5, h1, hb, n45, Int.toNat_zero, hv]
  · have h19' : ¬ (l.length : Int) < 19 := by omega
    have h10' : ¬ (l.length : Int) < 10 := by omega
    have hpos' : (0 : Int) < l.length := by omega
    have cp := parseInt_r (base := h.length) l h hd hne hl
    by_cases h3 : valL l < 2 ^ 63
    · rw [if_pos h3] at cp
      simp only [WpC_skip, WpC_ret, WpC_exit, WpC_region, WpC_seqD, WpC_block, WpC_condD, thenC_normal, thenC_ret, thenC_exit, thenQ_normal, thenQ_ret, thenQ_exit, condQ_true, condQ_false, condQ_bool, opQ_some, opQ_none, guardQ_tt, guardQ_tf, guardQ_ft, guardQ_ff, guardQ_no, blockQ_normal, blockQ_ret, blockQ_exit, endP_ret, endP_normal, endI_ret, endI_normal, resQ_some, Frz_sci, Frz_slci, FrzL_nili, FrzL_consi, Frz_tupi, Frz_aggi, Frz_ifci, oneCell, WpO_keep1, offV_ptr, offV_nil, blkNe_ptr, blkNe_sc, blkNe_slc, blkNe_eptr, blkNe_agg, blkNe_hsl, AOp.opds, Nat.reduceAdd, WpO_opD, WpO_nil, WpO_callD, WpO_guardD, step, Opd.get, put_app, put_none, ne_eq, reduceCtorEq, not_false_eq_true, not_true_eq_false, implies_true, slcLen, Option.map_some, Option.map_none, Option.bind_some, Option.bind_none, bin, binInt, reduceIte, Nat.reduceEqDiff, List.getD_cons_zero, List.getD_cons_succ, IntKind.signed, indexV, asNat?, loadV, cutCells, unary, evRess, evRes1, oneOrTup, wrapV, target, getsO, List.nil_append, List.append_nil, List.cons_append, Bool.false_eq_true, Bool.true_eq_false, decide_eq_true_eq, Bool.not_eq_true', decide_eq_false_iff_not, Bool.not_true, Bool.not_false, List.take_length, and_true, true_and, Int.ofNat_lt, Int.ofNat_le, Int.natCast_nonneg, Int.toNat_natCast, ge_iff_le, gt_iff_lt, if_true, if_false, List.length_map, decide_true, decide_false, int_beq, int_bne, bne_iff_ne, beq_iff_eq, Int.natCast_inj, Bool.and_eq_true, decide_not, Decidable.not_not, boundO, sliceV, exTo, Nat.zero_le, Nat.le_refl, Bool.or_true, beq_self_eq_true, Option.getD_some, Option.getD_none, List.drop_zero, Nat.sub_zero, and_self, or_true, true_or, or_self, false_or, or_false, and_false, false_and, Cp.isFull, isNil, moveV, Nat.add_zero, Nat.zero_add, Int.reduceLE, Int.reduceLT, Int.reduceEq, Int.reduceBEq, Int.reduceGT, Int.reduceGE, Nat.reduceLT, Nat.reduceLeDiff, bs_size, hpos, h19', h10', hpos', callD_ret cp, List.getElem?_cons_zero, List.getElem?_cons_succ, h3]
    · rw [if_neg h3] at cp
      simp only [WpC_skip, WpC_ret, WpC_exit, WpC_region, WpC_seqD, WpC_block, WpC_condD, thenC_normal, thenC_ret, thenC_exit, thenQ_normal, thenQ_ret, thenQ_exit, condQ_true, condQ_false, condQ_bool, opQ_some, opQ_none, guardQ_tt, guardQ_tf, guardQ_ft, guardQ_ff, guardQ_no, blockQ_normal, blockQ_ret, blockQ_exit, endP_ret, endP_normal, endI_ret, endI_normal, resQ_some, Frz_sci, Frz_slci, FrzL_nili, FrzL_consi, Frz_tupi, Frz_aggi, Frz_ifci, oneCell, WpO_keep1, offV_ptr, offV_nil, blkNe_ptr, blkNe_sc, blkNe_slc, blkNe_eptr, blkNe_agg, blkNe_hsl, AOp.opds, Nat.reduceAdd, WpO_opD, WpO_nil, WpO_callD, WpO_guardD, step, Opd.get, put_app, put_none, ne_eq, reduceCtorEq, not_false_eq_true, not_true_eq_false, implies_true, slcLen, Option.map_some, Option.map_none, Option.bind_some, Option.bind_none, bin, binInt, reduceIte, Nat.reduceEqDiff, List.getD_cons_zero, List.getD_cons_succ, IntKind.signed, indexV, asNat?, loadV, cutCells, unary, evRess, evRes1, oneOrTup, wrapV, target, getsO, List.nil_append, List.append_nil, List.cons_append, Bool.false_eq_true, Bool.true_eq_false, decide_eq_true_eq, Bool.not_eq_true', decide_eq_false_iff_not, Bool.not_true, Bool.not_false, List.take_length, and_true, true_and, Int.ofNat_lt, Int.ofNat_le, Int.natCast_nonneg, Int.toNat_natCast, ge_iff_le, gt_iff_lt, if_true, if_false, List.length_map, decide_true, decide_false, int_beq, int_bne, bne_iff_ne, beq_iff_eq, Int.natCast_inj, Bool.and_eq_true, decide_not, Decidable.not_not, boundO, sliceV, exTo, Nat.zero_le, Nat.le_refl, Bool.or_true, beq_self_eq_true, Option.getD_some, Option.getD_none, List.drop_zero, Nat.sub_zero, and_self, or_true, true_or, or_self, false_or, or_false, and_false, false_and, Cp.isFull, isNil, moveV, Nat.add_zero, Nat.zero_add, Int.reduceLE, Int.reduceLT, Int.reduceEq, Int.reduceBEq, Int.reduceGT, Int.reduceGE, Nat.reduceLT, Nat.reduceLeDiff, bs_size, hpos, h19', h10', hpos', callD_ret cp, List.getElem?_cons_zero, List.getElem?_cons_succ, h3]

theorem clone_r {base : Nat} (l : List UInt8) (h : Heap) (hne : l ≠ []) (hl : l.length < 2 ^ 30) :
    WpF S0 base k_i_stringslite_Clone [.sc (.string (bs l))] h fun v h' => v = .sc (.string (bs l)) ∧ h' = h := by
  refine WpF_pure (A := f_i_stringslite_Clone) rfl rfl rfl rfl ?_
  simp only [f_i_stringslite_Clone]
  have hpos : 0 < l.length := List.length_pos_iff.2 hne
  have hne' : l.length ≠ 0 := by omega
  have hle : l.length ≤ lim := by unfold lim; omega
  have e0 : ¬ (l.length : Int) = 0 := by omega
  have hall : newOk 1 (l.map bv) = true := by
    simp only [newOk, List.all_eq_true, List.mem_map]
    rintro _ ⟨c, _, rfl⟩
    rfl
  have hms : (l.map bv).all (mayStore h.length h.length) = true := by
    simp only [List.all_eq_true, mayStore]
    intro x _
    simp
  have hcp : copyV h.length (h ++ [.row 5 1 0 (List.replicate l.length [.sc (.int .u8 0)])]) 1 (.hsl h.length 0 0 l.length) (l.map bv) = some (l.length, h ++ [.row 5 1 0 (l.map bv)]) := by
    unfold copyV
    have ht : (l.map bv).take l.length = l.map bv := List.take_of_length_le (by simp)
    simp only [slcLen, List.length_map, Nat.min_self, hne', if_false, last_get, List.length_replicate, Nat.zero_add, Nat.le_refl, ht, hall, hms, and_self, if_true, List.take_zero, List.nil_append, last_set]
    simp
  have hrow : rowAt (h ++ [.row 5 1 0 (l.map bv)]) h.length 0 = some (1, l.map bv) := by
    unfold rowAt
    rw [last_get]
    rfl
  have hsd : strDataV (h ++ [.row 5 1 0 (l.map bv)]) 5 l.length (.rptr h.length 0 0 0) = some (.str (bs l), h ++ [.dead]) := by
    unfold strDataV
    have ht : (l.map bv).take l.length = l.map bv := List.take_of_length_le (by simp)
    simp only [last_get, List.length_map, Nat.le_refl, hpos, hle, and_self, if_true, ht, bytesIn_bv, Option.map_some, last_set]
  simp only [WpC_skip, WpC_ret, WpC_exit, WpC_region, WpC_seqD, WpC_block, WpC_condD, thenC_normal, thenC_ret, thenC_exit, thenQ_normal, thenQ_ret, thenQ_exit, condQ_true, condQ_false, condQ_bool, opQ_some, opQ_none, guardQ_tt, guardQ_tf, guardQ_ft, guardQ_ff, guardQ_no, blockQ_normal, blockQ_ret, blockQ_exit, endP_ret, endP_normal, endI_ret, endI_normal, resQ_some, Frz_sci, Frz_slci, FrzL_nili, FrzL_consi, Frz_tupi, Frz_aggi, Frz_ifci, oneCell, WpO_keep1, offV_ptr, offV_nil, blkNe_ptr, blkNe_sc, blkNe_slc, blkNe_eptr, blkNe_agg, blkNe_hsl, AOp.opds, Nat.reduceAdd, WpO_opD, WpO_nil, WpO_callD, WpO_guardD, step, Opd.get, put_app, put_none, ne_eq, reduceCtorEq, not_false_eq_true, not_true_eq_false, implies_true, slcLen, Option.map_some, Option.map_none, Option.bind_some, Option.bind_none, bin, binInt, reduceIte, Nat.reduceEqDiff, List.getD_cons_zero, List.getD_cons_succ, IntKind.signed, indexV, asNat?, loadV, cutCells, unary, evRess, evRes1, oneOrTup, wrapV, target, getsO, List.nil_append, List.append_nil, List.cons_append, Bool.false_eq_true, Bool.true_eq_false, decide_eq_true_eq, Bool.not_eq_true', decide_eq_false_iff_not, Bool.not_true, Bool.not_false, List.take_length, and_true, true_and, Int.ofNat_lt, Int.ofNat_le, Int.natCast_nonneg, Int.toNat_natCast, ge_iff_le, gt_iff_lt, if_true, if_false, List.length_map, decide_true, decide_false, int_beq, int_bne, bne_iff_ne, beq_iff_eq, Int.natCast_inj, Bool.and_eq_true, decide_not, Decidable.not_not, boundO, sliceV, exTo, Nat.zero_le, Nat.le_refl, Bool.or_true, beq_self_eq_true, Option.getD_some, Option.getD_none, List.drop_zero, Nat.sub_zero, and_self, or_true, true_or, or_self, false_or, or_false, and_false, false_and, Cp.isFull, isNil, moveV, Nat.add_zero, Nat.zero_add, Int.reduceLE, Int.reduceLT, Int.reduceEq, Int.reduceBEq, Int.reduceGT, Int.reduceGE, Nat.reduceLT, Nat.reduceLeDiff, bs_size, hne', e0, hle, srcRows, bs_out, hcp, hrow, List.length_replicate, hpos, Int.toNat_zero, hsd, last_take]

theorem rangeError_r {base : Nat} (a : ByteArray) (l : List UInt8) (h : Heap) (hne : l ≠ []) (hl : l.length < 2 ^ 30) :
    WpF S0 base k_strconv_rangeError [.sc (.string a), .sc (.string (bs l))] h fun v h' => v = .ptr h.length 0 ∧ h' = h ++ [.box 116 [.sc (.string a), .sc (.string (bs l)), .opq]] := by
  refine WpF_imp (A := f_strconv_rangeError) rfl rfl rfl rfl ?_
  simp only [f_strconv_rangeError]
  have hf : fillParts [.sc (.string ⟨#[]⟩), .sc (.string ⟨#[]⟩), .sc .nilIface] [(0, 1, .sc (.string a)), (1, 1, .sc (.string (bs l))), (2, 1, .opq)] = some [.sc (.string a), .sc (.string (bs l)), .opq] := rfl
  simp only [WpC_skip, WpC_ret, WpC_exit, WpC_region, WpC_seqD, WpC_block, WpC_condD, thenC_normal, thenC_ret, thenC_exit, thenQ_normal, thenQ_ret, thenQ_exit, condQ_true, condQ_false, condQ_bool, opQ_some, opQ_none, guardQ_tt, guardQ_tf, guardQ_ft, guardQ_ff, guardQ_no, blockQ_normal, blockQ_ret, blockQ_exit, endP_ret, endP_normal, endI_ret, endI_normal, resQ_some, Frz_sci, Frz_slci, FrzL_nili, FrzL_consi, Frz_tupi, Frz_aggi, Frz_ifci, oneCell, WpO_keep1, offV_ptr, offV_nil, blkNe_ptr, blkNe_sc, blkNe_slc, blkNe_eptr, blkNe_agg, blkNe_hsl, AOp.opds, Nat.reduceAdd, WpO_opD, WpO_nil, WpO_callD, WpO_guardD, step, Opd.get, put_app, put_none, ne_eq, reduceCtorEq, not_false_eq_true, not_true_eq_false, implies_true, slcLen, Option.map_some, Option.map_none, Option.bind_some, Option.bind_none, bin, binInt, reduceIte, Nat.reduceEqDiff, List.getD_cons_zero, List.getD_cons_succ, IntKind.signed, indexV, asNat?, loadV, cutCells, unary, evRess, evRes1, oneOrTup, wrapV, target, getsO, List.nil_append, List.append_nil, List.cons_append, Bool.false_eq_true, Bool.true_eq_false, decide_eq_true_eq, Bool.not_eq_true', decide_eq_false_iff_not, Bool.not_true, Bool.not_false, List.take_length, and_true, true_and, Int.ofNat_lt, Int.ofNat_le, Int.natCast_nonneg, Int.toNat_natCast, ge_iff_le, gt_iff_lt, if_true, if_false, List.length_map, decide_true, decide_false, int_beq, int_bne, bne_iff_ne, beq_iff_eq, Int.natCast_inj, Bool.and_eq_true, decide_not, Decidable.not_not, boundO, sliceV, exTo, Nat.zero_le, Nat.le_refl, Bool.or_true, beq_self_eq_true, Option.getD_some, Option.getD_none, List.drop_zero, Nat.sub_zero, and_self, or_true, true_or, or_self, false_or, or_false, and_false, false_and, Cp.isFull, isNil, moveV, Nat.add_zero, Nat.zero_add, Int.reduceLE, Int.reduceLT, Int.reduceEq, Int.reduceBEq, Int.reduceGT, Int.reduceGE, Nat.reduceLT, Nat.reduceLeDiff, callD_ret (clone_r l _ hne hl), g5, List.getElem?_cons_zero, getParts, hf, V.cells, List.all_cons, List.all_nil, Bool.and_self]

theorem atoi_r {base : Nat} (l : List UInt8) (h : Heap) (hd : ∀ c ∈ l, digitB c.toNat = true) (hne : l ≠ []) (hl : l.length < 2 ^ 30) :
    ∃ ext, WpF S0 base k_strconv_Atoi [.sc (.string (bs l))] h fun v h' =>
      v = (if valL l < 2 ^ 63 then .tup [V.int (valL l), .sc .nilIface] else .tup [V.int 9223372036854775807, .ifc 104 (.ptr h.length 0)]) ∧ h' = h ++ ext := by
  have cp := fun base => iAtoi_r (base := base) l h hd hne hl
  by_cases h3 : valL l < 2 ^ 63
  · refine ⟨[], WpF_imp (A := f_strconv_Atoi) rfl rfl rfl rfl ?_⟩
    simp only [f_strconv_Atoi]
    simp only [if_pos h3] at cp
    simp only [WpC_skip, WpC_ret, WpC_exit, WpC_region, WpC_seqD, WpC_block, WpC_condD, thenC_normal, thenC_ret, thenC_exit, thenQ_normal, thenQ_ret, thenQ_exit, condQ_true, condQ_false, condQ_bool, opQ_some, opQ_none, guardQ_tt, guardQ_tf, guardQ_ft, guardQ_ff, guardQ_no, blockQ_normal, blockQ_ret, blockQ_exit, endP_ret, endP_normal, endI_ret, endI_normal, resQ_some, Frz_sci, Frz_slci, FrzL_nili, FrzL_consi, Frz_tupi, Frz_aggi, Frz_ifci, oneCell, WpO_keep1, offV_ptr, offV_nil, blkNe_ptr, blkNe_sc, blkNe_slc, blkNe_eptr, blkNe_agg, blkNe_hsl, AOp.opds, Nat.reduceAdd, WpO_opD, WpO_nil, WpO_callD, WpO_guardD, step, Opd.get, put_app, put_none, ne_eq, reduceCtorEq, not_false_eq_true, not_true_eq_false, implies_true, slcLen, Option.map_some, Option.map_none, Option.bind_some, Option.bind_none, bin, binInt, reduceIte, Nat.reduceEqDiff, List.getD_cons_zero, List.getD_cons_succ, IntKind.signed, indexV, asNat?, loadV, cutCells, unary, evRess, evRes1, oneOrTup, wrapV, target, getsO, List.nil_append, List.append_nil, List.cons_append, Bool.false_eq_true, Bool.true_eq_false, decide_eq_true_eq, Bool.not_eq_true', decide_eq_false_iff_not, Bool.not_true, Bool.not_false, List.take_length, and_true, true_and, Int.ofNat_lt, Int.ofNat_le, Int.natCast_nonneg, Int.toNat_natCast, ge_iff_le, gt_iff_lt, if_true, if_false, List.length_map, decide_true, decide_false, int_beq, int_bne, bne_iff_ne, beq_iff_eq, Int.natCast_inj, Bool.and_eq_true, decide_not, Decidable.not_not, boundO, sliceV, exTo, Nat.zero_le, Nat.le_refl, Bool.or_true, beq_self_eq_true, Option.getD_some, Option.getD_none, List.drop_zero, Nat.sub_zero, and_self, or_true, true_or, or_self, false_or, or_false, and_false, false_and, Cp.isFull, isNil, moveV, Nat.add_zero, Nat.zero_add, Int.reduceLE, Int.reduceLT, Int.reduceEq, Int.reduceBEq, Int.reduceGT, Int.reduceGE, Nat.reduceLT, Nat.reduceLeDiff, callD_ret (cp _), List.getElem?_cons_zero, List.getElem?_cons_succ, h3]
  · refine ⟨[.box 116 [.sc (.string ⟨#[65, 116, 111, 105]⟩), .sc (.string (bs l)), .opq]], WpF_imp (A := f_strconv_Atoi) rfl rfl rfl rfl ?_⟩
    simp only [f_strconv_Atoi]
    simp only [if_neg h3] at cp
    have ct : WpF S0 base k_strconv_toError [.sc (.string ⟨#[65, 116, 111, 105]⟩), .sc (.string (bs l)), .sc (.int .i64 (0)), .sc (.int .i64 (0)), .ifc 101 (.sc (.int .i64 1))] h fun v h' => v = .ifc 104 (.ptr h.length 0) ∧ h' = h ++ [.box 116 [.sc (.string ⟨#[65, 116, 111, 105]⟩), .sc (.string (bs l)), .opq]] := by
      refine WpF_imp (A := f_strconv_toError) rfl rfl rfl rfl ?_
      simp only [f_strconv_toError]
      have el : List.lookup 101 [(6, LK.i), (30, .i), (101, .i), (149, .i), (150, .i), (152, .i), (153, .i)] = some LK.i := rfl
      simp only [WpC_skip, WpC_ret, WpC_exit, WpC_region, WpC_seqD, WpC_block, WpC_condD, thenC_normal, thenC_ret, thenC_exit, thenQ_normal, thenQ_ret, thenQ_exit, condQ_true, condQ_false, condQ_bool, opQ_some, opQ_none, guardQ_tt, guardQ_tf, guardQ_ft, guardQ_ff, guardQ_no, blockQ_normal, blockQ_ret, blockQ_exit, endP_ret, endP_normal, endI_ret, endI_normal, resQ_some, Frz_sci, Frz_slci, FrzL_nili, FrzL_consi, Frz_tupi, Frz_aggi, Frz_ifci, oneCell, WpO_keep1, offV_ptr, offV_nil, blkNe_ptr, blkNe_sc, blkNe_slc, blkNe_eptr, blkNe_agg, blkNe_hsl, AOp.opds, Nat.reduceAdd, WpO_opD, WpO_nil, WpO_callD, WpO_guardD, step, Opd.get, put_app, put_none, ne_eq, reduceCtorEq, not_false_eq_true, not_true_eq_false, implies_true, slcLen, Option.map_some, Option.map_none, Option.bind_some, Option.bind_none, bin, binInt, reduceIte, Nat.reduceEqDiff, List.getD_cons_zero, List.getD_cons_succ, IntKind.signed, indexV, asNat?, loadV, cutCells, unary, evRess, evRes1, oneOrTup, wrapV, target, getsO, List.nil_append, List.append_nil, List.cons_append, Bool.false_eq_true, Bool.true_eq_false, decide_eq_true_eq, Bool.not_eq_true', decide_eq_false_iff_not, Bool.not_true, Bool.not_false, List.take_length, and_true, true_and, Int.ofNat_lt, Int.ofNat_le, Int.natCast_nonneg, Int.toNat_natCast, ge_iff_le, gt_iff_lt, if_true, if_false, List.length_map, decide_true, decide_false, int_beq, int_bne, bne_iff_ne, beq_iff_eq, Int.natCast_inj, Bool.and_eq_true, decide_not, Decidable.not_not, boundO, sliceV, exTo, Nat.zero_le, Nat.le_refl, Bool.or_true, beq_self_eq_true, Option.getD_some, Option.getD_none, List.drop_zero, Nat.sub_zero, and_self, or_true, true_or, or_self, false_or, or_false, and_false, false_and, Cp.isFull, isNil, moveV, Nat.add_zero, Nat.zero_add, Int.reduceLE, Int.reduceLT, Int.reduceEq, Int.reduceBEq, Int.reduceGT, Int.reduceGE, Nat.reduceLT, Nat.reduceLeDiff, sameIfc, el, eqCell, callD_ret (rangeError_r _ l _ hne hl)]
    simp only [WpC_skip, WpC_ret, WpC_exit, WpC_region, WpC_seqD, WpC_block, WpC_condD, thenC_normal, thenC_ret, thenC_exit, thenQ_normal, thenQ_ret, thenQ_exit, condQ_true, condQ_false, condQ_bool, opQ_some, opQ_none, guardQ_tt, guardQ_tf, guardQ_ft, guardQ_ff, guardQ_no, blockQ_normal, blockQ_ret, blockQ_exit, endP_ret, endP_normal, endI_ret, endI_normal, resQ_some, Frz_sci, Frz_slci, FrzL_nili, FrzL_consi, Frz_tupi, Frz_aggi, Frz_ifci, oneCell, WpO_keep1, offV_ptr, offV_nil, blkNe_ptr, blkNe_sc, blkNe_slc, blkNe_eptr, blkNe_agg, blkNe_hsl, AOp.opds, Nat.reduceAdd, WpO_opD, WpO_nil, WpO_callD, WpO_guardD, step, Opd.get, put_app, put_none, ne_eq, reduceCtorEq, not_false_eq_true, not_true_eq_false, implies_true, slcLen, Option.map_some, Option.map_none, Option.bind_some, Option.bind_none, bin, binInt, reduceIte, Nat.reduceEqDiff, List.getD_cons_zero, List.getD_cons_succ, IntKind.signed, indexV, asNat?, loadV, cutCells, unary, evRess, evRes1, oneOrTup, wrapV, target, getsO, List.nil_append, List.append_nil, List.cons_append, Bool.false_eq_true, Bool.true_eq_false, decide_eq_true_eq, Bool.not_eq_true', decide_eq_false_iff_not, Bool.not_true, Bool.not_false, List.take_length, and_true, true_and, Int.ofNat_lt, Int.ofNat_le, Int.natCast_nonneg, Int.toNat_natCast, ge_iff_le, gt_iff_lt, if_true, if_false, List.length_map, decide_true, decide_false, int_beq, int_bne, bne_iff_ne, beq_iff_eq, Int.natCast_inj, Bool.and_eq_true, decide_not, Decidable.not_not, boundO, sliceV, exTo, Nat.zero_le, Nat.le_refl, Bool.or_true, beq_self_eq_true, Option.getD_some, Option.getD_none, List.drop_zero, Nat.sub_zero, and_self, or_true, true_or, or_self, false_or, or_false, and_false, false_and, Cp.isFull, isNil, moveV, Nat.add_zero, Nat.zero_add, Int.reduceLE, Int.reduceLT, Int.reduceEq, Int.reduceBEq, Int.reduceGT, Int.reduceGE, Nat.reduceLT, Nat.reduceLeDiff, callD_ret (cp _), List.getElem?_cons_zero, List.getElem?_cons_succ, h3, callD_ret ct]
end Go.Am
end
section
/- Am: the scanner's steps. -/
set_option linter.unusedSimpArgs false
namespace Go.Am

/-- What stands between tokens, skipped: what is left, and the line ('cm': within a comment). -/
def skipC : Bool → List UInt8 → Nat → List UInt8 × Nat
  | _, [], n => ([], n)
  | cm, c :: r, n => if c.toNat = 10 then skipC false r (n + 1) else if cm = true ∨ c.toNat = 32 ∨ c.toNat = 9 ∨ c.toNat = 13 then skipC cm r n else if c.toNat = 35 then skipC true r n else (c :: r, n)

def noNl (c : UInt8) : Bool := decide (c.toNat ≠ 10)

theorem skipC_true (l : List UInt8) (n : Nat) : skipC true l n = skipC false (l.dropWhile noNl) n := by
  induction l generalizing n with
  | nil => rfl
  | cons c r ih =>
    by_cases h : c.toNat = 10
    · rw [List.dropWhile_cons_of_neg (by simp [noNl, h])]
      simp only [skipC, h, if_true]
    · rw [List.dropWhile_cons_of_pos (by simp [noNl, h])]
      simp only [skipC, h, if_false, true_or, if_true]
      exact ih n

theorem skipC_le (cm : Bool) (l : List UInt8) (n : Nat) : (skipC cm l n).1.length ≤ l.length ∧ (skipC cm l n).2 + (skipC cm l n).1.length ≤ n + l.length ∧ n ≤ (skipC cm l n).2 := by
  induction l generalizing cm n with
  | nil => simp [skipC]
  | cons c r ih =>
    unfold skipC
    split
    · have := ih false (n + 1); simp only [List.length_cons]; omega
    · split
      · have := ih cm n; simp only [List.length_cons]; omega
      · split
        · have := ih true n; simp only [List.length_cons]; omega
        · simp only [List.length_cons]; omega

theorem index_nl (l : List UInt8) : (Lib.indexByte l 10 = -1 ∧ l.dropWhile noNl = []) ∨ ∃ k : Nat, Lib.indexByte l 10 = k ∧ k ≤ l.length ∧ l.drop k = l.dropWhile noNl := by
  induction l with
  | nil => exact .inl ⟨rfl, rfl⟩
  | cons c r ih =>
    by_cases h : c.toNat = 10
    · have hb : (c == 10) = true := by
        rw [beq_iff_eq]
        exact UInt8.toNat_inj.1 h
      refine .inr ⟨0, ?_, Nat.zero_le _, ?_⟩
      · unfold Lib.indexByte; rw [if_pos hb]; rfl
      · rw [List.dropWhile_cons_of_neg (by simp [noNl, h])]; rfl
    · have hb : ¬ (c == 10) = true := by
        rw [beq_iff_eq]
        intro e
        exact h (by rw [e]; rfl)
      rw [List.dropWhile_cons_of_pos (by simp [noNl, h])]
      rcases ih with ⟨h1, h2⟩ | ⟨k, h1, h2, h3⟩
      · refine .inl ⟨?_, h2⟩
        unfold Lib.indexByte; rw [if_neg hb, h1]; rfl
      · refine .inr ⟨k + 1, ?_, by simp; omega, h3⟩
        unfold Lib.indexByte
        rw [if_neg hb, h1, if_neg]
        · omega
        · simp only [beq_iff_eq]; omega

theorem indexByte_r {base : Nat} (ex : Cp) (l : List UInt8) (h : Heap) : WpF S0 base k_bytes_IndexByte [.slc ex 1 (l.map bv), .sc (.int .u8 (10))] h fun v h' => v = V.int (Lib.indexByte l 10) ∧ h' = h := by
  have hx : ∀ base, WpF S0 base 72 [.slc ex 1 (l.map bv), .sc (.int .u8 (10))] h fun v h' => v = V.int (Lib.indexByte l 10) ∧ h' = h := fun base => by
    refine WpF.ext (g := xIndexByte) rfl ?_ ⟨rfl, rfl⟩
    have hb : bytesAt h (.slc ex 1 (l.map bv)) = some l := by
      simp only [bytesAt, elems, beq_self_eq_true, Bool.or_true, if_true, Option.bind_some, bytesIn_bv]
    simp only [xIndexByte, hb, Option.map_some]
    rfl
  refine WpF_pure (A := f_bytes_IndexByte) rfl rfl rfl rfl ?_
  simp only [f_bytes_IndexByte]
  simp only [WpC_skip, WpC_ret, WpC_exit, WpC_region, WpC_seqD, WpC_block, WpC_condD, thenC_normal, thenC_ret, thenC_exit, thenQ_normal, thenQ_ret, thenQ_exit, condQ_true, condQ_false, condQ_bool, opQ_some, opQ_none, guardQ_tt, guardQ_tf, guardQ_ft, guardQ_ff, guardQ_no, blockQ_normal, blockQ_ret, blockQ_exit, endP_ret, endP_normal, endI_ret, endI_normal, resQ_some, Frz_sci, Frz_slci, FrzL_nili, FrzL_consi, Frz_tupi, Frz_aggi, Frz_ifci, oneCell, WpO_keep1, offV_ptr, offV_nil, blkNe_ptr, blkNe_sc, blkNe_slc, blkNe_eptr, blkNe_agg, blkNe_hsl, AOp.opds, Nat.reduceAdd, WpO_opD, WpO_nil, WpO_callD, WpO_guardD, step, Opd.get, put_app, put_none, ne_eq, reduceCtorEq, not_false_eq_true, not_true_eq_false, implies_true, slcLen, Option.map_some, Option.map_none, Option.bind_some, Option.bind_none, bin, binInt, reduceIte, Nat.reduceEqDiff, List.getD_cons_zero, List.getD_cons_succ, IntKind.signed, indexV, asNat?, loadV, cutCells, unary, evRess, evRes1, oneOrTup, wrapV, target, getsO, List.nil_append, List.append_nil, List.cons_append, Bool.false_eq_true, Bool.true_eq_false, decide_eq_true_eq, Bool.not_eq_true', decide_eq_false_iff_not, Bool.not_true, Bool.not_false, List.take_length, and_true, true_and, Int.ofNat_lt, Int.ofNat_le, Int.natCast_nonneg, Int.toNat_natCast, ge_iff_le, gt_iff_lt, if_true, if_false, List.length_map, decide_true, decide_false, int_beq, int_bne, bne_iff_ne, beq_iff_eq, Int.natCast_inj, Bool.and_eq_true, decide_not, Decidable.not_not, boundO, sliceV, exTo, Nat.zero_le, Nat.le_refl, Bool.or_true, beq_self_eq_true, Option.getD_some, Option.getD_none, List.drop_zero, Nat.sub_zero, and_self, or_true, true_or, or_self, false_or, or_false, and_false, false_and, Cp.isFull, isNil, moveV, Nat.add_zero, Nat.zero_add, Int.reduceLE, Int.reduceLT, Int.reduceEq, Int.reduceBEq, Int.reduceGT, Int.reduceGE, Nat.reduceLT, Nat.reduceLeDiff, callD_ret (hx _)]

theorem slice_from (h : Heap) (ex : Cp) (l : List UInt8) (k : Nat) (hk : k ≤ l.length) : sliceV h 1 (.slc ex 1 (l.map bv)) k none none = some (.slc (exTo ex l.length l.length none) 1 ((l.drop k).map bv), h) := by
  have ht : ((l.drop k).map bv).take (l.length - k) = (l.drop k).map bv := List.take_of_length_le (by simp)
  simp only [sliceV, List.length_map, Option.getD_none, beq_self_eq_true, Bool.or_true, hk, Nat.le_refl, and_self, if_true, ← List.map_drop, ht]
theorem slice_to (h : Heap) (ex : Cp) (l : List UInt8) (k : Nat) (hk : k ≤ l.length) : sliceV h 1 (.slc ex 1 (l.map bv)) 0 (some k) none = some (.slc (exTo ex k l.length none) 1 ((l.take k).map bv), h) := by
  simp only [sliceV, List.length_map, Option.getD_none, Option.getD_some, beq_self_eq_true, Bool.or_true, hk, Nat.le_refl, Nat.zero_le, and_self, if_true, List.drop_zero, Nat.sub_zero, List.map_take]

/-- The scanner in memory. -/
abbrev scB (ex : Cp) (l : List UInt8) (n : Nat) : Obj := .box 53 [.slc ex 1 (l.map bv), V.int n]

section
variable {base b : Nat} {h : Heap} {ex ex' : Cp} {l l' : List UInt8} {n m : Nat}
theorem lt_of_get {o : Obj} (hb : h[b]? = some o) : b < h.length := (List.getElem?_eq_some_iff.1 hb).1
theorem set_get {o : Obj} (hb : b < h.length) : (h.set b o)[b]? = some o := List.getElem?_set_self hb
theorem set_self_of {o : Obj} (hb : h[b]? = some o) : h.set b o = h := by
  apply List.ext_getElem?
  intro i
  by_cases e : i = b
  · subst e; rw [set_get (lt_of_get hb), hb]
  · rw [List.getElem?_set_ne (Ne.symm e)]
theorem st_b (hb : b < h.length) : storeV base (h.set b (scB ex l n)) 1 (.ptr b 0) (.slc ex' 1 (l'.map bv)) = some (h.set b (scB ex' l' n)) := by
  refine (store_box (n := 1) (set_get hb) rfl rfl (by simp) (by simp [mayStore, refsLts, refsLt, V.cells])).trans ?_
  rw [List.set_set]
  rfl
theorem st_n (hb : b < h.length) : storeV base (h.set b (scB ex l n)) 1 (.ptr b 1) (.sc (.int .i64 (m : Int))) = some (h.set b (scB ex l m)) := by
  refine (store_box (n := 1) (set_get hb) rfl rfl (by simp) (by simp [mayStore, refsLts, refsLt, V.cells])).trans ?_
  rw [List.set_set]
  rfl
end

theorem skip_r {base b : Nat} {ex : Cp} {l : List UInt8} {n : Nat} {h : Heap} (hb : h[b]? = some (scB ex l n)) (hl : n + l.length < 2 ^ 62) :
    ∃ ex', WpF S0 base k_lex_scanner_skip [.ptr b 0] h fun v h' => v = .tup [] ∧ h' = h.set b (scB ex' (skipC false l n).1 (skipC false l n).2) := by
  apply WpF.ex
  refine WpF_imp (A := f_lex_scanner_skip) rfl rfl rfl rfl ?_
  simp only [f_lex_scanner_skip]
  have hlt := lt_of_get hb
  simp only [WpC_skip, WpC_ret, WpC_exit, WpC_region, WpC_seqD, WpC_block, WpC_condD, thenC_normal, thenC_ret, thenC_exit, thenQ_normal, thenQ_ret, thenQ_exit, condQ_true, condQ_false, condQ_bool, opQ_some, opQ_none, guardQ_tt, guardQ_tf, guardQ_ft, guardQ_ff, guardQ_no, blockQ_normal, blockQ_ret, blockQ_exit, endP_ret, endP_normal, endI_ret, endI_normal, resQ_some, Frz_sci, Frz_slci, FrzL_nili, FrzL_consi, Frz_tupi, Frz_aggi, Frz_ifci, oneCell, WpO_keep1, offV_ptr, offV_nil, blkNe_ptr, blkNe_sc, blkNe_slc, blkNe_eptr, blkNe_agg, blkNe_hsl, AOp.opds, Nat.reduceAdd, WpO_opD, WpO_nil, WpO_callD, WpO_guardD, step, Opd.get, put_app, put_none, ne_eq, reduceCtorEq, not_false_eq_true, not_true_eq_false, implies_true, slcLen, Option.map_some, Option.map_none, Option.bind_some, Option.bind_none, bin, binInt, reduceIte, Nat.reduceEqDiff, List.getD_cons_zero, List.getD_cons_succ, IntKind.signed, indexV, asNat?, loadV, cutCells, unary, evRess, evRes1, oneOrTup, wrapV, target, getsO, List.nil_append, List.append_nil, List.cons_append, Bool.false_eq_true, Bool.true_eq_false, decide_eq_true_eq, Bool.not_eq_true', decide_eq_false_iff_not, Bool.not_true, Bool.not_false, List.take_length, and_true, true_and, Int.ofNat_lt, Int.ofNat_le, Int.natCast_nonneg, Int.toNat_natCast, ge_iff_le, gt_iff_lt, if_true, if_false, List.length_map, decide_true, decide_false, int_beq, int_bne, bne_iff_ne, beq_iff_eq, Int.natCast_inj, Bool.and_eq_true, decide_not, Decidable.not_not, boundO, sliceV, exTo, Nat.zero_le, Nat.le_refl, Bool.or_true, beq_self_eq_true, Option.getD_some, Option.getD_none, List.drop_zero, Nat.sub_zero, and_self, or_true, true_or, or_self, false_or, or_false, and_false, false_and, Cp.isFull, isNil, moveV, Nat.add_zero, Nat.zero_add, Int.reduceLE, Int.reduceLT, Int.reduceEq, Int.reduceBEq, Int.reduceGT, Int.reduceGE, Nat.reduceLT, Nat.reduceLeDiff]
  refine WpC_loopI (fun k en h' => ∃ ex1 l1 n1, k = List.length l1 ∧ en 0 = .ptr b 0 ∧ h' = h.set b (scB ex1 l1 n1) ∧ skipC false l1 n1 = skipC false l n ∧ n1 + l1.length ≤ n + l.length) l.length ⟨ex, l, n, rfl, rfl, (set_self_of hb).symm, rfl, Nat.le_refl _⟩ ?_
  rintro k en h' ⟨ex1, l1, n1, rfl, e0, rfl, hs, hle⟩
  cases l1 with
  | nil =>
    simp only [WpC_skip, WpC_ret, WpC_exit, WpC_region, WpC_seqD, WpC_block, WpC_condD, thenC_normal, thenC_ret, thenC_exit, thenQ_normal, thenQ_ret, thenQ_exit, condQ_true, condQ_false, condQ_bool, opQ_some, opQ_none, guardQ_tt, guardQ_tf, guardQ_ft, guardQ_ff, guardQ_no, blockQ_normal, blockQ_ret, blockQ_exit, endP_ret, endP_normal, endI_ret, endI_normal, resQ_some, Frz_sci, Frz_slci, FrzL_nili, FrzL_consi, Frz_tupi, Frz_aggi, Frz_ifci, oneCell, WpO_keep1, offV_ptr, offV_nil, blkNe_ptr, blkNe_sc, blkNe_slc, blkNe_eptr, blkNe_agg, blkNe_hsl, AOp.opds, Nat.reduceAdd, WpO_opD, WpO_nil, WpO_callD, WpO_guardD, step, Opd.get, put_app, put_none, ne_eq, reduceCtorEq, not_false_eq_true, not_true_eq_false, implies_true, slcLen, Option.map_some, Option.map_none, Option.bind_some, Option.bind_none, bin, binInt, reduceIte, Nat.reduceEqDiff, List.getD_cons_zero, List.getD_cons_succ, IntKind.signed, indexV, asNat?, loadV, cutCells, unary, evRess, evRes1, oneOrTup, wrapV, target, getsO, List.nil_append, List.append_nil, List.cons_append, Bool.false_eq_true, Bool.true_eq_false, decide_eq_true_eq, Bool.not_eq_true', decide_eq_false_iff_not, Bool.not_true, Bool.not_false, List.take_length, and_true, true_and, Int.ofNat_lt, Int.ofNat_le, Int.natCast_nonneg, Int.toNat_natCast, ge_iff_le, gt_iff_lt, if_true, if_false, List.length_map, decide_true, decide_false, int_beq, int_bne, bne_iff_ne, beq_iff_eq, Int.natCast_inj, Bool.and_eq_true, decide_not, Decidable.not_not, boundO, sliceV, exTo, Nat.zero_le, Nat.le_refl, Bool.or_true, beq_self_eq_true, Option.getD_some, Option.getD_none, List.drop_zero, Nat.sub_zero, and_self, or_true, true_or, or_self, false_or, or_false, and_false, false_and, Cp.isFull, isNil, moveV, Nat.add_zero, Nat.zero_add, Int.reduceLE, Int.reduceLT, Int.reduceEq, Int.reduceBEq, Int.reduceGT, Int.reduceGE, Nat.reduceLT, Nat.reduceLeDiff, e0, set_get hlt, List.getElem?_cons_zero, List.map_nil, List.length_nil, Int.lt_irrefl, Int.cast_ofNat_Int, Int.natCast_zero]
    refine ⟨ex1, ?_⟩
    rw [← hs]
    rfl
  | cons c r =>
    have hpos : (0 : Int) < ((r.length + 1 : Nat) : Int) := by omega
    have hd1 : (c :: r).drop 1 = r := rfl
    have hs1 := fun ex n => slice_from (h.set b (scB ex (c :: r) n)) ex (c :: r) 1 (by simp)
    rw [hd1] at *
    simp only [List.length_cons] at hle hs1
    have hz : ((c :: r).map bv)[0]? = some (bv c) := rfl
    by_cases h10 : c.toNat = 10
    · have h10' : (c.toNat : Int) = 10 := by omega
      have w : IntKind.wrap .i64 ((n1 : Int) + 1) = ((n1 + 1 : Nat) : Int) := by rw [wrap_i64 (by omega) (by omega)]; rfl
      simp only [WpC_skip, WpC_ret, WpC_exit, WpC_region, WpC_seqD, WpC_block, WpC_condD, thenC_normal, thenC_ret, thenC_exit, thenQ_normal, thenQ_ret, thenQ_exit, condQ_true, condQ_false, condQ_bool, opQ_some, opQ_none, guardQ_tt, guardQ_tf, guardQ_ft, guardQ_ff, guardQ_no, blockQ_normal, blockQ_ret, blockQ_exit, endP_ret, endP_normal, endI_ret, endI_normal, resQ_some, Frz_sci, Frz_slci, FrzL_nili, FrzL_consi, Frz_tupi, Frz_aggi, Frz_ifci, oneCell, WpO_keep1, offV_ptr, offV_nil, blkNe_ptr, blkNe_sc, blkNe_slc, blkNe_eptr, blkNe_agg, blkNe_hsl, AOp.opds, Nat.reduceAdd, WpO_opD, WpO_nil, WpO_callD, WpO_guardD, step, Opd.get, put_app, put_none, ne_eq, reduceCtorEq, not_false_eq_true, not_true_eq_false, implies_true, slcLen, Option.map_some, Option.map_none, Option.bind_some, Option.bind_none, bin, binInt, reduceIte, Nat.reduceEqDiff, List.getD_cons_zero, List.getD_cons_succ, IntKind.signed, indexV, asNat?, loadV, cutCells, unary, evRess, evRes1, oneOrTup, wrapV, target, getsO, List.nil_append, List.append_nil, List.cons_append, Bool.false_eq_true, Bool.true_eq_false, decide_eq_true_eq, Bool.not_eq_true', decide_eq_false_iff_not, Bool.not_true, Bool.not_false, List.take_length, and_true, true_and, Int.ofNat_lt, Int.ofNat_le, Int.natCast_nonneg, Int.toNat_natCast, ge_iff_le, gt_iff_lt, if_true, if_false, List.length_map, decide_true, decide_false, int_beq, int_bne, bne_iff_ne, beq_iff_eq, Int.natCast_inj, Bool.and_eq_true, decide_not, Decidable.not_not, boundO, exTo, Nat.zero_le, Nat.le_refl, Bool.or_true, beq_self_eq_true, Option.getD_some, Option.getD_none, List.drop_zero, Nat.sub_zero, and_self, or_true, true_or, or_self, false_or, or_false, and_false, false_and, Cp.isFull, isNil, moveV, Nat.add_zero, Nat.zero_add, Int.reduceLE, Int.reduceLT, Int.reduceEq, Int.reduceBEq, Int.reduceGT, Int.reduceGE, Nat.reduceLT, Nat.reduceLeDiff, e0, set_get hlt, List.getElem?_cons_zero, List.getElem?_cons_succ, List.length_cons, hpos, Int.toNat_zero, hz, h10', w, st_n hlt, hs1, st_b hlt, Int.toNat_one]
      refine ⟨r.length, by omega, _, r, n1 + 1, rfl, rfl, ?_, by omega⟩
      rw [← hs]
      simp only [skipC, h10, if_true]
    · have h10' : ¬ (c.toNat : Int) = 10 := by omega
      have blank : (c.toNat = 32 ∨ c.toNat = 9 ∨ c.toNat = 13) → skipC false (c :: r) n1 = skipC false r n1 := fun hh => by
        simp only [skipC, h10, if_false, hh, or_true, if_true]
      by_cases h32 : c.toNat = 32
      · have h32' : (c.toNat : Int) = 32 := by omega
        simp only [WpC_skip, WpC_ret, WpC_exit, WpC_region, WpC_seqD, WpC_block, WpC_condD, thenC_normal, thenC_ret, thenC_exit, thenQ_normal, thenQ_ret, thenQ_exit, condQ_true, condQ_false, condQ_bool, opQ_some, opQ_none, guardQ_tt, guardQ_tf, guardQ_ft, guardQ_ff, guardQ_no, blockQ_normal, blockQ_ret, blockQ_exit, endP_ret, endP_normal, endI_ret, endI_normal, resQ_some, Frz_sci, Frz_slci, FrzL_nili, FrzL_consi, Frz_tupi, Frz_aggi, Frz_ifci, oneCell, WpO_keep1, offV_ptr, offV_nil, blkNe_ptr, blkNe_sc, blkNe_slc, blkNe_eptr, blkNe_agg, blkNe_hsl, AOp.opds, Nat.reduceAdd, WpO_opD, WpO_nil, WpO_callD, WpO_guardD, step, Opd.get, put_app, put_none, ne_eq, reduceCtorEq, not_false_eq_true, not_true_eq_false, implies_true, slcLen, Option.map_some, Option.map_none, Option.bind_some, Option.bind_none, bin, binInt, reduceIte, Nat.reduceEqDiff, List.getD_cons_zero, List.getD_cons_succ, IntKind.signed, indexV, asNat?, loadV, cutCells, unary, evRess, evRes1, oneOrTup, wrapV, target, getsO, List.nil_append, List.append_nil, List.cons_append, Bool.false_eq_true, Bool.true_eq_false, decide_eq_true_eq, Bool.not_eq_true', decide_eq_false_iff_not, Bool.not_true, Bool.not_false, List.take_length, and_true, true_and, Int.ofNat_lt, Int.ofNat_le, Int.natCast_nonneg, Int.toNat_natCast, ge_iff_le, gt_iff_lt, if_true, if_false, List.length_map, decide_true, decide_false, int_beq, int_bne, bne_iff_ne, beq_iff_eq, Int.natCast_inj, Bool.and_eq_true, decide_not, Decidable.not_not, boundO, exTo, Nat.zero_le, Nat.le_refl, Bool.or_true, beq_self_eq_true, Option.getD_some, Option.getD_none, List.drop_zero, Nat.sub_zero, and_self, or_true, true_or, or_self, false_or, or_false, and_false, false_and, Cp.isFull, isNil, moveV, Nat.add_zero, Nat.zero_add, Int.reduceLE, Int.reduceLT, Int.reduceEq, Int.reduceBEq, Int.reduceGT, Int.reduceGE, Nat.reduceLT, Nat.reduceLeDiff, e0, set_get hlt, List.getElem?_cons_zero, List.getElem?_cons_succ, List.length_cons, hpos, Int.toNat_zero, hz, h10', h32', hs1, st_b hlt, Int.toNat_one]
        exact ⟨r.length, by omega, _, r, n1, rfl, rfl, by rw [← hs, blank (.inl h32)], by omega⟩
      have h32' : ¬ (c.toNat : Int) = 32 := by omega
      by_cases h9 : c.toNat = 9
      · have h9' : (c.toNat : Int) = 9 := by omega
        simp only [WpC_skip, WpC_ret, WpC_exit, WpC_region, WpC_seqD, WpC_block, WpC_condD, thenC_normal, thenC_ret, thenC_exit, thenQ_normal, thenQ_ret, thenQ_exit, condQ_true, condQ_false, condQ_bool, opQ_some, opQ_none, guardQ_tt, guardQ_tf, guardQ_ft, guardQ_ff, guardQ_no, blockQ_normal, blockQ_ret, blockQ_exit, endP_ret, endP_normal, endI_ret, endI_normal, resQ_some, Frz_sci, Frz_slci, FrzL_nili, FrzL_consi, Frz_tupi, Frz_aggi, Frz_ifci, oneCell, WpO_keep1, offV_ptr, offV_nil, blkNe_ptr, blkNe_sc, blkNe_slc, blkNe_eptr, blkNe_agg, blkNe_hsl, AOp.opds, Nat.reduceAdd, WpO_opD, WpO_nil, WpO_callD, WpO_guardD, step, Opd.get, put_app, put_none, ne_eq, reduceCtorEq, not_false_eq_true, not_true_eq_false, implies_true, slcLen, Option.map_some, Option.map_none, Option.bind_some, Option.bind_none, bin, binInt, reduceIte, Nat.reduceEqDiff, List.getD_cons_zero, List.getD_cons_succ, IntKind.signed, indexV, asNat?, loadV, cutCells, unary, evRess, evRes1, oneOrTup, wrapV, target, getsO, List.nil_append, List.append_nil, List.cons_append, Bool.false_eq_true, Bool.true_eq_false, decide_eq_true_eq, Bool.not_eq_true', decide_eq_false_iff_not, Bool.not_true, Bool.not_false, List.take_length, and_true, true_and, Int.ofNat_lt, Int.ofNat_le, Int.natCast_nonneg, Int.toNat_natCast, ge_iff_le, gt_iff_lt, if_true, if_false, List.length_map, decide_true, decide_false, int_beq, int_bne, bne_iff_ne, beq_iff_eq, Int.natCast_inj, Bool.and_eq_true, decide_not, Decidable.not_not, boundO, exTo, Nat.zero_le, Nat.le_refl, Bool.or_true, beq_self_eq_true, Option.getD_some, Option.getD_none, List.drop_zero, Nat.sub_zero, and_self, or_true, true_or, or_self, false_or, or_false, and_false, false_and, Cp.isFull, isNil, moveV, Nat.add_zero, Nat.zero_add, Int.reduceLE, Int.reduceLT, Int.reduceEq, Int.reduceBEq, Int.reduceGT, Int.reduceGE, Nat.reduceLT, Nat.reduceLeDiff, e0, set_get hlt, List.getElem?_cons_zero, List.getElem?_cons_succ, List.length_cons, hpos, Int.toNat_zero, hz, h10', h32', h9', hs1, st_b hlt, Int.toNat_one]
        exact ⟨r.length, by omega, _, r, n1, rfl, rfl, by rw [← hs, blank (.inr (.inl h9))], by omega⟩
      have h9' : ¬ (c.toNat : Int) = 9 := by omega
      by_cases h13 : c.toNat = 13
      · have h13' : (c.toNat : Int) = 13 := by omega
        simp only [WpC_skip, WpC_ret, WpC_exit, WpC_region, WpC_seqD, WpC_block, WpC_condD, thenC_normal, thenC_ret, thenC_exit, thenQ_normal, thenQ_ret, thenQ_exit, condQ_true, condQ_false, condQ_bool, opQ_some, opQ_none, guardQ_tt, guardQ_tf, guardQ_ft, guardQ_ff, guardQ_no, blockQ_normal, blockQ_ret, blockQ_exit, endP_ret, endP_normal, endI_ret, endI_normal, resQ_some, Frz_sci, Frz_slci, FrzL_nili, FrzL_consi, Frz_tupi, Frz_aggi, Frz_ifci, oneCell, WpO_keep1, offV_ptr, offV_nil, blkNe_ptr, blkNe_sc, blkNe_slc, blkNe_eptr, blkNe_agg, blkNe_hsl, AOp.opds, Nat.reduceAdd, WpO_opD, WpO_nil, WpO_callD, WpO_guardD, step, Opd.get, put_app, put_none, ne_eq, reduceCtorEq, not_false_eq_true, not_true_eq_false, implies_true, slcLen, Option.map_some, Option.map_none, Option.bind_some, Option.bind_none, bin, binInt, reduceIte, Nat.reduceEqDiff, List.getD_cons_zero, List.getD_cons_succ, IntKind.signed, indexV, asNat?, loadV, cutCells, unary, evRess, evRes1, oneOrTup, wrapV, target, getsO, List.nil_append, List.append_nil, List.cons_append, Bool.false_eq_true, Bool.true_eq_false, decide_eq_true_eq, Bool.not_eq_true', decide_eq_false_iff_not, Bool.not_true, Bool.not_false, List.take_length, and_true, true_and, Int.ofNat_lt, Int.ofNat_le, Int.natCast_nonneg, Int.toNat_natCast, ge_iff_le, gt_iff_lt, if_true, if_false, List.length_map, decide_true, decide_false, int_beq, int_bne, bne_iff_ne, beq_iff_eq, Int.natCast_inj, Bool.and_eq_true, decide_not, Decidable.not_not, boundO, exTo, Nat.zero_le, Nat.le_refl, Bool.or_true, beq_self_eq_true, Option.getD_some, Option.getD_none, List.drop_zero, Nat.sub_zero, and_self, or_true, true_or, or_self, false_or, or_false, and_false, false_and, Cp.isFull, isNil, moveV, Nat.add_zero, Nat.zero_add, Int.reduceLE, Int.reduceLT, Int.reduceEq, Int.reduceBEq, Int.reduceGT, Int.reduceGE, Nat.reduceLT, Nat.reduceLeDiff, e0, set_get hlt, List.getElem?_cons_zero, List.getElem?_cons_succ, List.length_cons, hpos, Int.toNat_zero, hz, h10', h32', h9', h13', hs1, st_b hlt, Int.toNat_one]
        exact ⟨r.length, by omega, _, r, n1, rfl, rfl, by rw [← hs, blank (.inr (.inr h13))], by omega⟩
      have h13' : ¬ (c.toNat : Int) = 13 := by omega
      by_cases h35 : c.toNat = 35
      · have h35' : (c.toNat : Int) = 35 := by omega
        have hstep : skipC false (c :: r) n1 = skipC false (r.dropWhile noNl) n1 := by
          rw [← skipC_true]
          have : ¬ (false = true ∨ c.toNat = 32 ∨ c.toNat = 9 ∨ c.toNat = 13) := by simp [h32, h9, h13]
          rw [skipC, if_neg h10, if_neg this, if_pos h35]
        have hdw : (c :: r).dropWhile noNl = r.dropWhile noNl := List.dropWhile_cons_of_pos (by simp [noNl, h10])
        have hdl : (r.dropWhile noNl).length ≤ r.length := (List.dropWhile_sublist _).length_le
        rcases index_nl (c :: r) with ⟨i1, i2⟩ | ⟨k, i1, i2, i3⟩
        · have hs2 := slice_from (h.set b (scB ex1 (c :: r) n1)) ex1 (c :: r) (r.length + 1) (by simp)
          have i2' : (c :: r).drop (r.length + 1) = r.dropWhile noNl := by rw [← hdw, i2]; exact List.drop_of_length_le (by simp)
          rw [i2'] at hs2
          simp only [WpC_skip, WpC_ret, WpC_exit, WpC_region, WpC_seqD, WpC_block, WpC_condD, thenC_normal, thenC_ret, thenC_exit, thenQ_normal, thenQ_ret, thenQ_exit, condQ_true, condQ_false, condQ_bool, opQ_some, opQ_none, guardQ_tt, guardQ_tf, guardQ_ft, guardQ_ff, guardQ_no, blockQ_normal, blockQ_ret, blockQ_exit, endP_ret, endP_normal, endI_ret, endI_normal, resQ_some, Frz_sci, Frz_slci, FrzL_nili, FrzL_consi, Frz_tupi, Frz_aggi, Frz_ifci, oneCell, WpO_keep1, offV_ptr, offV_nil, blkNe_ptr, blkNe_sc, blkNe_slc, blkNe_eptr, blkNe_agg, blkNe_hsl, AOp.opds, Nat.reduceAdd, WpO_opD, WpO_nil, WpO_callD, WpO_guardD, step, Opd.get, put_app, put_none, ne_eq, reduceCtorEq, not_false_eq_true, not_true_eq_false, implies_true, slcLen, Option.map_some, Option.map_none, Option.bind_some, Option.bind_none, bin, binInt, reduceIte, Nat.reduceEqDiff, List.getD_cons_zero, List.getD_cons_succ, IntKind.signed, indexV, asNat?, loadV, cutCells, unary, evRess, evRes1, oneOrTup, wrapV, target, getsO, List.nil_append, List.append_nil, List.cons_append, Bool.false_eq_true, Bool.true_eq_false, decide_eq_true_eq, Bool.not_eq_true', decide_eq_false_iff_not, Bool.not_true, Bool.not_false, List.take_length, and_true, true_and, Int.ofNat_lt, Int.ofNat_le, Int.natCast_nonneg, Int.toNat_natCast, ge_iff_le, gt_iff_lt, if_true, if_false, List.length_map, decide_true, decide_false, int_beq, int_bne, bne_iff_ne, beq_iff_eq, Int.natCast_inj, Bool.and_eq_true, decide_not, Decidable.not_not, boundO, exTo, Nat.zero_le, Nat.le_refl, Bool.or_true, beq_self_eq_true, Option.getD_some, Option.getD_none, List.drop_zero, Nat.sub_zero, and_self, or_true, true_or, or_self, false_or, or_false, and_false, false_and, Cp.isFull, isNil, moveV, Nat.add_zero, Nat.zero_add, Int.reduceLE, Int.reduceLT, Int.reduceEq, Int.reduceBEq, Int.reduceGT, Int.reduceGE, Nat.reduceLT, Nat.reduceLeDiff, e0, set_get hlt, List.getElem?_cons_zero, List.getElem?_cons_succ, List.length_cons, hpos, Int.toNat_zero, hz, h10', h32', h9', h13', h35', callD_ret (indexByte_r _ _ _), i1, hs2, st_b hlt]
          exact ⟨_, by omega, _, _, n1, rfl, rfl, by rw [← hs, hstep], by omega⟩
        · have hs2 := slice_from (h.set b (scB ex1 (c :: r) n1)) ex1 (c :: r) k i2
          rw [i3, hdw] at hs2
          have hk0 : ¬ ((k : Int) < 0) := by omega
          simp only [WpC_skip, WpC_ret, WpC_exit, WpC_region, WpC_seqD, WpC_block, WpC_condD, thenC_normal, thenC_ret, thenC_exit, thenQ_normal, thenQ_ret, thenQ_exit, condQ_true, condQ_false, condQ_bool, opQ_some, opQ_none, guardQ_tt, guardQ_tf, guardQ_ft, guardQ_ff, guardQ_no, blockQ_normal, blockQ_ret, blockQ_exit, endP_ret, endP_normal, endI_ret, endI_normal, resQ_some, Frz_sci, Frz_slci, FrzL_nili, FrzL_consi, Frz_tupi, Frz_aggi, Frz_ifci, oneCell, WpO_keep1, offV_ptr, offV_nil, blkNe_ptr, blkNe_sc, blkNe_slc, blkNe_eptr, blkNe_agg, blkNe_hsl, AOp.opds, Nat.reduceAdd, WpO_opD, WpO_nil, WpO_callD, WpO_guardD, step, Opd.get, put_app, put_none, ne_eq, reduceCtorEq, not_false_eq_true, not_true_eq_false, implies_true, slcLen, Option.map_some, Option.map_none, Option.bind_some, Option.bind_none, bin, binInt, reduceIte, Nat.reduceEqDiff, List.getD_cons_zero, List.getD_cons_succ, IntKind.signed, indexV, asNat?, loadV, cutCells, unary, evRess, evRes1, oneOrTup, wrapV, target, getsO, List.nil_append, List.append_nil, List.cons_append, Bool.false_eq_true, Bool.true_eq_false, decide_eq_true_eq, Bool.not_eq_true', decide_eq_false_iff_not, Bool.not_true, Bool.not_false, List.take_length, and_true, true_and, Int.ofNat_lt, Int.ofNat_le, Int.natCast_nonneg, Int.toNat_natCast, ge_iff_le, gt_iff_lt, if_true, if_false, List.length_map, decide_true, decide_false, int_beq, int_bne, bne_iff_ne, beq_iff_eq, Int.natCast_inj, Bool.and_eq_true, decide_not, Decidable.not_not, boundO, exTo, Nat.zero_le, Nat.le_refl, Bool.or_true, beq_self_eq_true, Option.getD_some, Option.getD_none, List.drop_zero, Nat.sub_zero, and_self, or_true, true_or, or_self, false_or, or_false, and_false, false_and, Cp.isFull, isNil, moveV, Nat.add_zero, Nat.zero_add, Int.reduceLE, Int.reduceLT, Int.reduceEq, Int.reduceBEq, Int.reduceGT, Int.reduceGE, Nat.reduceLT, Nat.reduceLeDiff, e0, set_get hlt, List.getElem?_cons_zero, List.getElem?_cons_succ, List.length_cons, hpos, Int.toNat_zero, hz, h10', h32', h9', h13', h35', callD_ret (indexByte_r _ _ _), i1, hk0, hs2, st_b hlt]
          exact ⟨_, by omega, _, _, n1, rfl, rfl, by rw [← hs, hstep], by omega⟩
      have h35' : ¬ (c.toNat : Int) = 35 := by omega
      simp only [WpC_skip, WpC_ret, WpC_exit, WpC_region, WpC_seqD, WpC_block, WpC_condD, thenC_normal, thenC_ret, thenC_exit, thenQ_normal, thenQ_ret, thenQ_exit, condQ_true, condQ_false, condQ_bool, opQ_some, opQ_none, guardQ_tt, guardQ_tf, guardQ_ft, guardQ_ff, guardQ_no, blockQ_normal, blockQ_ret, blockQ_exit, endP_ret, endP_normal, endI_ret, endI_normal, resQ_some, Frz_sci, Frz_slci, FrzL_nili, FrzL_consi, Frz_tupi, Frz_aggi, Frz_ifci, oneCell, WpO_keep1, offV_ptr, offV_nil, blkNe_ptr, blkNe_sc, blkNe_slc, blkNe_eptr, blkNe_agg, blkNe_hsl, AOp.opds, Nat.reduceAdd, WpO_opD, WpO_nil, WpO_callD, WpO_guardD, step, Opd.get, put_app, put_none, ne_eq, reduceCtorEq, not_false_eq_true, not_true_eq_false, implies_true, slcLen, Option.map_some, Option.map_none, Option.bind_some, Option.bind_none, bin, binInt, reduceIte, Nat.reduceEqDiff, List.getD_cons_zero, List.getD_cons_succ, IntKind.signed, indexV, asNat?, loadV, cutCells, unary, evRess, evRes1, oneOrTup, wrapV, target, getsO, List.nil_append, List.append_nil, List.cons_append, Bool.false_eq_true, Bool.true_eq_false, decide_eq_true_eq, Bool.not_eq_true', decide_eq_false_iff_not, Bool.not_true, Bool.not_false, List.take_length, and_true, true_and, Int.ofNat_lt, Int.ofNat_le, Int.natCast_nonneg, Int.toNat_natCast, ge_iff_le, gt_iff_lt, if_true, if_false, List.length_map, decide_true, decide_false, int_beq, int_bne, bne_iff_ne, beq_iff_eq, Int.natCast_inj, Bool.and_eq_true, decide_not, Decidable.not_not, boundO, exTo, Nat.zero_le, Nat.le_refl, Bool.or_true, beq_self_eq_true, Option.getD_some, Option.getD_none, List.drop_zero, Nat.sub_zero, and_self, or_true, true_or, or_self, false_or, or_false, and_false, false_and, Cp.isFull, isNil, moveV, Nat.add_zero, Nat.zero_add, Int.reduceLE, Int.reduceLT, Int.reduceEq, Int.reduceBEq, Int.reduceGT, Int.reduceGE, Nat.reduceLT, Nat.reduceLeDiff, e0, set_get hlt, List.getElem?_cons_zero, List.getElem?_cons_succ, List.length_cons, hpos, Int.toNat_zero, hz, h10', h32', h9', h13', h35']
      refine ⟨ex1, ?_⟩
      rw [← hs]
      simp only [skipC, h10, h32, h9, h13, h35, if_false, Bool.false_eq_true, or_self]
end Go.Am
end
section
/- Am: the scanner's runs and signs. -/
set_option linter.unusedSimpArgs false
namespace Go.Am

theorem take_while_of (p : UInt8 → Bool) : ∀ (l : List UInt8) (i : Nat) (hi : i < l.length), p l[i] = false → (l.take i).any (fun c => !p c) = false → l.takeWhile p = l.take i ∧ l.dropWhile p = l.drop i
  | [], i, hi, _, _ => by simp at hi
  | c :: r, 0, _, h1, _ => by
    have h1 : p c = false := h1
    rw [List.takeWhile_cons_of_neg (by simp [h1]), List.dropWhile_cons_of_neg (by simp [h1])]
    exact ⟨rfl, rfl⟩
  | c :: r, i + 1, hi, h1, h2 => by
    rw [List.take_succ_cons, List.any_cons, Bool.or_eq_false_iff] at h2
    have hc : p c = true := by simpa using h2.1
    have ih := take_while_of p r i (by simpa using hi) h1 h2.2
    rw [List.takeWhile_cons_of_pos hc, List.dropWhile_cons_of_pos hc, ih.1, ih.2]
    exact ⟨rfl, rfl⟩
theorem take_while_all (p : UInt8 → Bool) : ∀ (l : List UInt8), l.any (fun c => !p c) = false → l.takeWhile p = l ∧ l.dropWhile p = []
  | [], _ => ⟨rfl, rfl⟩
  | c :: r, h => by
    rw [List.any_cons, Bool.or_eq_false_iff] at h
    have hc : p c = true := by simpa using h.1
    have ih := take_while_all p r h.2
    rw [List.takeWhile_cons_of_pos hc, List.dropWhile_cons_of_pos hc, ih.1, ih.2]
    exact ⟨rfl, rfl⟩

/-! ### Memory that has grown -/
theorem get_at0 {h : Heap} {A : Obj} {r : Heap} : (h ++ A :: r)[h.length]? = some A := by simp
theorem get_at1 {h : Heap} {A B : Obj} {r : Heap} : (h ++ A :: B :: r)[h.length + 1]? = some B := by simp [List.getElem?_append_right]
theorem get_at2 {h : Heap} {A B C : Obj} {r : Heap} : (h ++ A :: B :: C :: r)[h.length + 2]? = some C := by simp [List.getElem?_append_right]
theorem get_low {h r : Heap} {b : Nat} (hb : b < h.length) : (h ++ r)[b]? = h[b]? := List.getElem?_append_left hb
theorem set_low {h r : Heap} {b : Nat} {o : Obj} (hb : b < h.length) : (h ++ r).set b o = h.set b o ++ r := List.set_append_left _ _ hb

theorem run_r {base b : Nat} {g : FuncId} {p : UInt8 → Bool} {ex : Cp} {l : List UInt8} {n : Nat} {h : Heap} (hb : h[b]? = some (scB ex l n)) (hl : l.length < 2 ^ 62) (hg : ∀ (base : Nat) (h : Heap) (c : UInt8), WpF S0 base g [.sc (.int .u8 c.toNat)] h fun v h' => v = .bool (p c) ∧ h' = h) :
    ∃ ex', WpF S0 base k_lex_scanner_run [.ptr b 0, .fn (.func g) [] []] h fun v h' => v = .sc (.string (bs (l.takeWhile p))) ∧ h' = h.set b (scB ex' (l.dropWhile p) n) ++ [Obj.box 58 [.fn (.func g) [] []]] := by
  apply WpF.ex
  refine WpF_imp (A := f_lex_scanner_run) rfl rfl rfl rfl ?_
  simp only [f_lex_scanner_run]
  have hlt := lt_of_get hb
  have hc : ∀ (base : Nat) (c : UInt8), WpF S0 base 73 (.sc (.int .u8 c.toNat) :: [.ptr h.length 0]) (h ++ [Obj.box 58 [.fn (.func g) [] []]]) fun v h' => v = .bool (!p c) ∧ h' = h ++ [Obj.box 58 [.fn (.func g) [] []]] := fun base c => by
    refine WpF_pure (A := f_lex_scanner_run_1) rfl rfl rfl rfl ?_
    simp only [f_lex_scanner_run_1]
    simp only [WpC_skip, WpC_ret, WpC_exit, WpC_region, WpC_seqD, WpC_block, WpC_condD, thenC_normal, thenC_ret, thenC_exit, thenQ_normal, thenQ_ret, thenQ_exit, condQ_true, condQ_false, condQ_bool, opQ_some, opQ_none, guardQ_tt, guardQ_tf, guardQ_ft, guardQ_ff, guardQ_no, blockQ_normal, blockQ_ret, blockQ_exit, endP_ret, endP_normal, endI_ret, endI_normal, resQ_some, Frz_sci, Frz_slci, FrzL_nili, FrzL_consi, Frz_tupi, Frz_aggi, Frz_ifci, oneCell, WpO_keep1, offV_ptr, offV_nil, blkNe_ptr, blkNe_sc, blkNe_slc, blkNe_eptr, blkNe_agg, blkNe_hsl, AOp.opds, Nat.reduceAdd, WpO_opD, WpO_nil, WpO_callD, WpO_guardD, step, Opd.get, put_app, put_none, ne_eq, reduceCtorEq, not_false_eq_true, not_true_eq_false, implies_true, slcLen, Option.map_some, Option.map_none, Option.bind_some, Option.bind_none, bin, binInt, reduceIte, Nat.reduceEqDiff, List.getD_cons_zero, List.getD_cons_succ, IntKind.signed, indexV, asNat?, loadV, cutCells, unary, evRess, evRes1, oneOrTup, wrapV, target, getsO, List.nil_append, List.append_nil, List.cons_append, Bool.false_eq_true, Bool.true_eq_false, decide_eq_true_eq, Bool.not_eq_true', decide_eq_false_iff_not, Bool.not_true, Bool.not_false, List.take_length, and_true, true_and, Int.ofNat_lt, Int.ofNat_le, Int.natCast_nonneg, Int.toNat_natCast, ge_iff_le, gt_iff_lt, if_true, if_false, List.length_map, decide_true, decide_false, int_beq, int_bne, bne_iff_ne, beq_iff_eq, Int.natCast_inj, Bool.and_eq_true, decide_not, Decidable.not_not, boundO, sliceV, exTo, Nat.zero_le, Nat.le_refl, Bool.or_true, beq_self_eq_true, Option.getD_some, Option.getD_none, List.drop_zero, Nat.sub_zero, and_self, or_true, true_or, or_self, false_or, or_false, and_false, false_and, Cp.isFull, isNil, moveV, Nat.add_zero, Nat.zero_add, Int.reduceLE, Int.reduceLT, Int.reduceEq, Int.reduceBEq, Int.reduceGT, Int.reduceGE, Nat.reduceLT, Nat.reduceLeDiff, last_get, List.getElem?_cons_zero, callD_ret (hg _ _ c), last_take]
  obtain ⟨i, hi, hw⟩ := callD_ex (indexFunc_r (base := base) [.ptr h.length 0] (fun c => !p c) l ex (h ++ [Obj.box 58 [.fn (.func g) [] []]]) (by omega) hc)
  have hset : ∀ o, (h ++ [Obj.box 58 [.fn (.func g) [] []]]).set b o = h.set b o ++ [Obj.box 58 [.fn (.func g) [] []]] := fun o => set_low hlt
  have hget : (h ++ [Obj.box 58 [.fn (.func g) [] []]])[b]? = some (scB ex l n) := by rw [get_low hlt, hb]
  have hst : ∀ ex' l', storeV base (h ++ [Obj.box 58 [.fn (.func g) [] []]]) 1 (.ptr b 0) (.slc ex' 1 (l'.map bv)) = some (h.set b (scB ex' l' n) ++ [Obj.box 58 [.fn (.func g) [] []]]) := fun ex' l' => by
    have := st_b (base := base) (b := b) (h := h ++ [Obj.box 58 [.fn (.func g) [] []]]) (ex := ex) (l := l) (n := n) (ex' := ex') (l' := l') (by simp; omega)
    rw [set_self_of hget] at this
    rw [this, hset]
  rcases hi with ⟨k, rfl, hk, hp, hno⟩ | ⟨rfl, hno⟩
  · have hp' : p l[k] = false := by simpa using hp
    obtain ⟨t1, t2⟩ := take_while_of p l k hk hp' hno
    have hk0 : ¬ ((k : Int) < 0) := by omega
    have s1 := fun h => slice_from h ex l k (by omega)
    have s2 := fun h => slice_to h ex l k (by omega)
    simp only [WpC_skip, WpC_ret, WpC_exit, WpC_region, WpC_seqD, WpC_block, WpC_condD, thenC_normal, thenC_ret, thenC_exit, thenQ_normal, thenQ_ret, thenQ_exit, condQ_true, condQ_false, condQ_bool, opQ_some, opQ_none, guardQ_tt, guardQ_tf, guardQ_ft, guardQ_ff, guardQ_no, blockQ_normal, blockQ_ret, blockQ_exit, endP_ret, endP_normal, endI_ret, endI_normal, resQ_some, Frz_sci, Frz_slci, FrzL_nili, FrzL_consi, Frz_tupi, Frz_aggi, Frz_ifci, oneCell, WpO_keep1, offV_ptr, offV_nil, blkNe_ptr, blkNe_sc, blkNe_slc, blkNe_eptr, blkNe_agg, blkNe_hsl, AOp.opds, Nat.reduceAdd, WpO_opD, WpO_nil, WpO_callD, WpO_guardD, step, Opd.get, put_app, put_none, ne_eq, reduceCtorEq, not_false_eq_true, not_true_eq_false, implies_true, slcLen, Option.map_some, Option.map_none, Option.bind_some, Option.bind_none, bin, binInt, reduceIte, Nat.reduceEqDiff, List.getD_cons_zero, List.getD_cons_succ, IntKind.signed, indexV, asNat?, loadV, cutCells, unary, evRess, evRes1, oneOrTup, wrapV, target, getsO, List.nil_append, List.append_nil, List.cons_append, Bool.false_eq_true, Bool.true_eq_false, decide_eq_true_eq, Bool.not_eq_true', decide_eq_false_iff_not, Bool.not_true, Bool.not_false, List.take_length, and_true, true_and, Int.ofNat_lt, Int.ofNat_le, Int.natCast_nonneg, Int.toNat_natCast, ge_iff_le, gt_iff_lt, if_true, if_false, List.length_map, decide_true, decide_false, int_beq, int_bne, bne_iff_ne, beq_iff_eq, Int.natCast_inj, Bool.and_eq_true, decide_not, Decidable.not_not, boundO, exTo, Nat.zero_le, Nat.le_refl, Bool.or_true, beq_self_eq_true, Option.getD_some, Option.getD_none, List.drop_zero, Nat.sub_zero, and_self, or_true, true_or, or_self, false_or, or_false, and_false, false_and, Cp.isFull, isNil, moveV, Nat.add_zero, Nat.zero_add, Int.reduceLE, Int.reduceLT, Int.reduceEq, Int.reduceBEq, Int.reduceGT, Int.reduceGE, Nat.reduceLT, Nat.reduceLeDiff, V.cells, List.all_cons, List.all_nil, Bool.and_self, hget, List.getElem?_cons_zero, callD_ret hw, hk0, s1, s2, elems, bytesIn_bv, hst]
    exact ⟨_, by rw [t1], by rw [t2]⟩
  · obtain ⟨t1, t2⟩ := take_while_all p l hno
    have s1 := fun h => slice_from h ex l l.length (Nat.le_refl _)
    have s2 := fun h => slice_to h ex l l.length (Nat.le_refl _)
    rw [List.take_length] at s2
    rw [List.drop_length] at s1
    simp only [WpC_skip, WpC_ret, WpC_exit, WpC_region, WpC_seqD, WpC_block, WpC_condD, thenC_normal, thenC_ret, thenC_exit, thenQ_normal, thenQ_ret, thenQ_exit, condQ_true, condQ_false, condQ_bool, opQ_some, opQ_none, guardQ_tt, guardQ_tf, guardQ_ft, guardQ_ff, guardQ_no, blockQ_normal, blockQ_ret, blockQ_exit, endP_ret, endP_normal, endI_ret, endI_normal, resQ_some, Frz_sci, Frz_slci, FrzL_nili, FrzL_consi, Frz_tupi, Frz_aggi, Frz_ifci, oneCell, WpO_keep1, offV_ptr, offV_nil, blkNe_ptr, blkNe_sc, blkNe_slc, blkNe_eptr, blkNe_agg, blkNe_hsl, AOp.opds, Nat.reduceAdd, WpO_opD, WpO_nil, WpO_callD, WpO_guardD, step, Opd.get, put_app, put_none, ne_eq, reduceCtorEq, not_false_eq_true, not_true_eq_false, implies_true, slcLen, Option.map_some, Option.map_none, Option.bind_some, Option.bind_none, bin, binInt, reduceIte, Nat.reduceEqDiff, List.getD_cons_zero, List.getD_cons_succ, IntKind.signed, indexV, asNat?, loadV, cutCells, unary, evRess, evRes1, oneOrTup, wrapV, target, getsO, List.nil_append, List.append_nil, List.cons_append, Bool.false_eq_true, Bool.true_eq_false, decide_eq_true_eq, Bool.not_eq_true', decide_eq_false_iff_not, Bool.not_true, Bool.not_false, List.take_length, and_true, true_and, Int.ofNat_lt, Int.ofNat_le, Int.natCast_nonneg, Int.toNat_natCast, ge_iff_le, gt_iff_lt, if_true, if_false, List.length_map, decide_true, decide_false, int_beq, int_bne, bne_iff_ne, beq_iff_eq, Int.natCast_inj, Bool.and_eq_true, decide_not, Decidable.not_not, boundO, exTo, Nat.zero_le, Nat.le_refl, Bool.or_true, beq_self_eq_true, Option.getD_some, Option.getD_none, List.drop_zero, Nat.sub_zero, and_self, or_true, true_or, or_self, false_or, or_false, and_false, false_and, Cp.isFull, isNil, moveV, Nat.add_zero, Nat.zero_add, Int.reduceLE, Int.reduceLT, Int.reduceEq, Int.reduceBEq, Int.reduceGT, Int.reduceGE, Nat.reduceLT, Nat.reduceLeDiff, V.cells, List.all_cons, List.all_nil, Bool.and_self, hget, List.getElem?_cons_zero, callD_ret hw, s1, s2, elems, bytesIn_bv, hst]
    exact ⟨_, by rw [t1], by rw [t2]⟩

/-! ### Signs -/
def signsL : List (List UInt8) := [[60, 60], [62, 62], [60, 61], [62, 61], [61, 61], [33, 61], [43], [45], [42], [47], [37], [38], [124], [94], [33], [126], [60], [62], [61], [40], [41], [123], [125], [91], [93], [44], [59]]
/-- Does a text begin so? -/
def preB (l m : List UInt8) : Bool := decide (m.length ≤ l.length) && (l.take m.length == m)
theorem g2_eq : g2 = signsL.map fun m => V.sc (.string (bs m)) := rfl
theorem signs_ne : ∀ m ∈ signsL, m ≠ [] := by decide
theorem signs_le : ∀ m ∈ signsL, m.length ≤ 2 := by decide

theorem equal_r {base : Nat} (e1 e2 : Cp) (l m : List UInt8) (h : Heap) : WpF S0 base k_bytes_Equal [.slc e1 1 (l.map bv), .slc e2 1 (m.map bv)] h fun v h' => v = .bool (l == m) ∧ h' = h := by
  refine WpF_pure (A := f_bytes_Equal) rfl rfl rfl rfl ?_
  simp only [f_bytes_Equal]
  simp only [WpC_skip, WpC_ret, WpC_exit, WpC_region, WpC_seqD, WpC_block, WpC_condD, thenC_normal, thenC_ret, thenC_exit, thenQ_normal, thenQ_ret, thenQ_exit, condQ_true, condQ_false, condQ_bool, opQ_some, opQ_none, guardQ_tt, guardQ_tf, guardQ_ft, guardQ_ff, guardQ_no, blockQ_normal, blockQ_ret, blockQ_exit, endP_ret, endP_normal, endI_ret, endI_normal, resQ_some, Frz_sci, Frz_slci, FrzL_nili, FrzL_consi, Frz_tupi, Frz_aggi, Frz_ifci, oneCell, WpO_keep1, offV_ptr, offV_nil, blkNe_ptr, blkNe_sc, blkNe_slc, blkNe_eptr, blkNe_agg, blkNe_hsl, AOp.opds, Nat.reduceAdd, WpO_opD, WpO_nil, WpO_callD, WpO_guardD, step, Opd.get, put_app, put_none, ne_eq, reduceCtorEq, not_false_eq_true, not_true_eq_false, implies_true, slcLen, Option.map_some, Option.map_none, Option.bind_some, Option.bind_none, bin, binInt, reduceIte, Nat.reduceEqDiff, List.getD_cons_zero, List.getD_cons_succ, IntKind.signed, indexV, asNat?, loadV, cutCells, unary, evRess, evRes1, oneOrTup, wrapV, target, getsO, List.nil_append, List.append_nil, List.cons_append, Bool.false_eq_true, Bool.true_eq_false, decide_eq_true_eq, Bool.not_eq_true', decide_eq_false_iff_not, Bool.not_true, Bool.not_false, List.take_length, and_true, true_and, Int.ofNat_lt, Int.ofNat_le, Int.natCast_nonneg, Int.toNat_natCast, ge_iff_le, gt_iff_lt, if_true, if_false, List.length_map, decide_true, decide_false, int_beq, int_bne, bne_iff_ne, beq_iff_eq, Int.natCast_inj, Bool.and_eq_true, decide_not, Decidable.not_not, boundO, sliceV, exTo, Nat.zero_le, Nat.le_refl, Bool.or_true, beq_self_eq_true, Option.getD_some, Option.getD_none, List.drop_zero, Nat.sub_zero, and_self, or_true, true_or, or_self, false_or, or_false, and_false, false_and, Cp.isFull, isNil, moveV, Nat.add_zero, Nat.zero_add, Int.reduceLE, Int.reduceLT, Int.reduceEq, Int.reduceBEq, Int.reduceGT, Int.reduceGE, Nat.reduceLT, Nat.reduceLeDiff, elems, bytesIn_bv, binStr, bs_list]
theorem hasPrefix_r {base : Nat} (e1 e2 : Cp) (l m : List UInt8) (h : Heap) : WpF S0 base k_bytes_HasPrefix [.slc e1 1 (l.map bv), .slc e2 1 (m.map bv)] h fun v h' => v = .bool (preB l m) ∧ h' = h := by
  refine WpF_pure (A := f_bytes_HasPrefix) rfl rfl rfl rfl ?_
  simp only [f_bytes_HasPrefix]
  by_cases hm : m.length ≤ l.length
  · have s2 := slice_to h e1 l m.length hm
    simp only [WpC_skip, WpC_ret, WpC_exit, WpC_region, WpC_seqD, WpC_block, WpC_condD, thenC_normal, thenC_ret, thenC_exit, thenQ_normal, thenQ_ret, thenQ_exit, condQ_true, condQ_false, condQ_bool, opQ_some, opQ_none, guardQ_tt, guardQ_tf, guardQ_ft, guardQ_ff, guardQ_no, blockQ_normal, blockQ_ret, blockQ_exit, endP_ret, endP_normal, endI_ret, endI_normal, resQ_some, Frz_sci, Frz_slci, FrzL_nili, FrzL_consi, Frz_tupi, Frz_aggi, Frz_ifci, oneCell, WpO_keep1, offV_ptr, offV_nil, blkNe_ptr, blkNe_sc, blkNe_slc, blkNe_eptr, blkNe_agg, blkNe_hsl, AOp.opds, Nat.reduceAdd, WpO_opD, WpO_nil, WpO_callD, WpO_guardD, step, Opd.get, put_app, put_none, ne_eq, reduceCtorEq, not_false_eq_true, not_true_eq_false, implies_true, slcLen, Option.map_some, Option.map_none, Option.bind_some, Option.bind_none, bin, binInt, reduceIte, Nat.reduceEqDiff, List.getD_cons_zero, List.getD_cons_succ, IntKind.signed, indexV, asNat?, loadV, cutCells, unary, evRess, evRes1, oneOrTup, wrapV, target, getsO, List.nil_append, List.append_nil, List.cons_append, Bool.false_eq_true, Bool.true_eq_false, decide_eq_true_eq, Bool.not_eq_true', decide_eq_false_iff_not, Bool.not_true, Bool.not_false, List.take_length, and_true, true_and, Int.ofNat_lt, Int.ofNat_le, Int.natCast_nonneg, Int.toNat_natCast, ge_iff_le, gt_iff_lt, if_true, if_false, List.length_map, decide_true, decide_false, int_beq, int_bne, bne_iff_ne, beq_iff_eq, Int.natCast_inj, Bool.and_eq_true, decide_not, Decidable.not_not, boundO, exTo, Nat.zero_le, Nat.le_refl, Bool.or_true, beq_self_eq_true, Option.getD_some, Option.getD_none, List.drop_zero, Nat.sub_zero, and_self, or_true, true_or, or_self, false_or, or_false, and_false, false_and, Cp.isFull, isNil, moveV, Nat.add_zero, Nat.zero_add, Int.reduceLE, Int.reduceLT, Int.reduceEq, Int.reduceBEq, Int.reduceGT, Int.reduceGE, Nat.reduceLT, Nat.reduceLeDiff, hm, s2, callD_ret (equal_r _ _ _ _ _)]
    simp [preB, hm]
  · simp only [WpC_skip, WpC_ret, WpC_exit, WpC_region, WpC_seqD, WpC_block, WpC_condD, thenC_normal, thenC_ret, thenC_exit, thenQ_normal, thenQ_ret, thenQ_exit, condQ_true, condQ_false, condQ_bool, opQ_some, opQ_none, guardQ_tt, guardQ_tf, guardQ_ft, guardQ_ff, guardQ_no, blockQ_normal, blockQ_ret, blockQ_exit, endP_ret, endP_normal, endI_ret, endI_normal, resQ_some, Frz_sci, Frz_slci, FrzL_nili, FrzL_consi, Frz_tupi, Frz_aggi, Frz_ifci, oneCell, WpO_keep1, offV_ptr, offV_nil, blkNe_ptr, blkNe_sc, blkNe_slc, blkNe_eptr, blkNe_agg, blkNe_hsl, AOp.opds, Nat.reduceAdd, WpO_opD, WpO_nil, WpO_callD, WpO_guardD, step, Opd.get, put_app, put_none, ne_eq, reduceCtorEq, not_false_eq_true, not_true_eq_false, implies_true, slcLen, Option.map_some, Option.map_none, Option.bind_some, Option.bind_none, bin, binInt, reduceIte, Nat.reduceEqDiff, List.getD_cons_zero, List.getD_cons_succ, IntKind.signed, indexV, asNat?, loadV, cutCells, unary, evRess, evRes1, oneOrTup, wrapV, target, getsO, List.nil_append, List.append_nil, List.cons_append, Bool.false_eq_true, Bool.true_eq_false, decide_eq_true_eq, Bool.not_eq_true', decide_eq_false_iff_not, Bool.not_true, Bool.not_false, List.take_length, and_true, true_and, Int.ofNat_lt, Int.ofNat_le, Int.natCast_nonneg, Int.toNat_natCast, ge_iff_le, gt_iff_lt, if_true, if_false, List.length_map, decide_true, decide_false, int_beq, int_bne, bne_iff_ne, beq_iff_eq, Int.natCast_inj, Bool.and_eq_true, decide_not, Decidable.not_not, boundO, sliceV, exTo, Nat.zero_le, Nat.le_refl, Bool.or_true, beq_self_eq_true, Option.getD_some, Option.getD_none, List.drop_zero, Nat.sub_zero, and_self, or_true, true_or, or_self, false_or, or_false, and_false, false_and, Cp.isFull, isNil, moveV, Nat.add_zero, Nat.zero_add, Int.reduceLE, Int.reduceLT, Int.reduceEq, Int.reduceBEq, Int.reduceGT, Int.reduceGE, Nat.reduceLT, Nat.reduceLeDiff, hm]
    simp [preB, hm]
end Go.Am
end
section
/- Am: the scanner's signs and tokens. -/
set_option linter.unusedSimpArgs false
namespace Go.Am

theorem find_take {α : Type} (p : α → Bool) (l : List α) (i : Nat) (hi : i < l.length) (hno : (l.take i).find? p = none) : (p l[i] = true → l.find? p = some l[i]) ∧ (p l[i] = false → (l.take (i + 1)).find? p = none) := by
  have hsplit : l = l.take i ++ l[i] :: l.drop (i + 1) := by
    rw [← List.drop_eq_getElem_cons hi, List.take_append_drop]
  refine ⟨fun hp => ?_, fun hp => ?_⟩
  · conv => lhs; rw [hsplit]
    rw [List.find?_append, hno, Option.none_or, List.find?_cons, hp]
  · rw [List.take_add_one, List.getElem?_eq_getElem hi, List.find?_append, hno, Option.none_or]
    simp [hp]

def signF (l : List UInt8) : Option (List UInt8) := signsL.find? (preB l)

theorem sign_r {base b : Nat} {ex : Cp} {l : List UInt8} {n : Nat} {h : Heap} (hb : h[b]? = some (scB ex l n)) (_ : l.length < 2 ^ 62) :
    ∃ ex', WpF S0 base k_lex_scanner_sign [.ptr b 0] h fun v h' => v = .sc (.string (bs ((signF l).getD []))) ∧ h' = h.set b (scB ex' (l.drop ((signF l).getD []).length) n) := by
  apply WpF.ex
  refine WpF_imp (A := f_lex_scanner_sign) rfl rfl rfl rfl ?_
  simp only [f_lex_scanner_sign]
  have hlt := lt_of_get hb
  have hld : loadV h (some 27) (.eptr g2 0) = some (.agg g2) := rfl
  simp only [WpC_skip, WpC_ret, WpC_exit, WpC_region, WpC_seqD, WpC_block, WpC_condD, thenC_normal, thenC_ret, thenC_exit, thenQ_normal, thenQ_ret, thenQ_exit, condQ_true, condQ_false, condQ_bool, opQ_some, opQ_none, guardQ_tt, guardQ_tf, guardQ_ft, guardQ_ff, guardQ_no, blockQ_normal, blockQ_ret, blockQ_exit, endP_ret, endP_normal, endI_ret, endI_normal, resQ_some, Frz_sci, Frz_slci, FrzL_nili, FrzL_consi, Frz_tupi, Frz_aggi, Frz_ifci, oneCell, WpO_keep1, offV_ptr, offV_nil, blkNe_ptr, blkNe_sc, blkNe_slc, blkNe_eptr, blkNe_agg, blkNe_hsl, AOp.opds, Nat.reduceAdd, WpO_opD, WpO_nil, WpO_callD, WpO_guardD, step, Opd.get, put_app, put_none, ne_eq, reduceCtorEq, not_false_eq_true, not_true_eq_false, implies_true, slcLen, Option.map_some, Option.map_none, Option.bind_some, Option.bind_none, bin, binInt, reduceIte, Nat.reduceEqDiff, List.getD_cons_zero, List.getD_cons_succ, IntKind.signed, indexV, asNat?, cutCells, unary, evRess, evRes1, oneOrTup, wrapV, target, getsO, List.nil_append, List.append_nil, List.cons_append, Bool.false_eq_true, Bool.true_eq_false, decide_eq_true_eq, Bool.not_eq_true', decide_eq_false_iff_not, Bool.not_true, Bool.not_false, List.take_length, and_true, true_and, Int.ofNat_lt, Int.ofNat_le, Int.natCast_nonneg, Int.toNat_natCast, ge_iff_le, gt_iff_lt, if_true, if_false, List.length_map, decide_true, decide_false, int_beq, int_bne, bne_iff_ne, beq_iff_eq, Int.natCast_inj, Bool.and_eq_true, decide_not, Decidable.not_not, boundO, sliceV, exTo, Nat.zero_le, Nat.le_refl, Bool.or_true, beq_self_eq_true, Option.getD_some, Option.getD_none, List.drop_zero, Nat.sub_zero, and_self, or_true, true_or, or_self, false_or, or_false, and_false, false_and, Cp.isFull, isNil, moveV, Nat.add_zero, Nat.zero_add, Int.reduceLE, Int.reduceLT, Int.reduceEq, Int.reduceBEq, Int.reduceGT, Int.reduceGE, Nat.reduceLT, Nat.reduceLeDiff, hld]
  have hsl : signsL.length = 27 := rfl
  refine WpC_loopI (fun k en h' => ∃ i : Nat, k = 27 - i ∧ i ≤ 27 ∧ en 6 = V.int i ∧ en 5 = .agg g2 ∧ en 0 = .ptr b 0 ∧ (signsL.take i).find? (preB l) = none ∧ h' = h) 27 ⟨0, rfl, Nat.zero_le _, rfl, rfl, rfl, rfl, rfl⟩ ?_
  rintro k en h' ⟨i, rfl, hi, e6, e5, e0, hno, rfl⟩
  by_cases h1 : i < 27
  · have h1s : i < signsL.length := by omega
    have h1' : (i : Int) < 27 := by omega
    have hg : g2[i]? = some (.sc (.string (bs signsL[i]))) := by
      rw [g2_eq, List.getElem?_map, List.getElem?_eq_getElem h1s]; rfl
    have hm2 := signs_le _ (List.getElem_mem h1s)
    have hle : (signsL[i]).length ≤ lim := by unfold lim; omega
    have hf := find_take (preB l) signsL i h1s hno
    cases hp : preB l signsL[i]
    · simp only [WpC_skip, WpC_ret, WpC_exit, WpC_region, WpC_seqD, WpC_block, WpC_condD, thenC_normal, thenC_ret, thenC_exit, thenQ_normal, thenQ_ret, thenQ_exit, condQ_true, condQ_false, condQ_bool, opQ_some, opQ_none, guardQ_tt, guardQ_tf, guardQ_ft, guardQ_ff, guardQ_no, blockQ_normal, blockQ_ret, blockQ_exit, endP_ret, endP_normal, endI_ret, endI_normal, resQ_some, Frz_sci, Frz_slci, FrzL_nili, FrzL_consi, Frz_tupi, Frz_aggi, Frz_ifci, oneCell, WpO_keep1, offV_ptr, offV_nil, blkNe_ptr, blkNe_sc, blkNe_slc, blkNe_eptr, blkNe_agg, blkNe_hsl, AOp.opds, Nat.reduceAdd, WpO_opD, WpO_nil, WpO_callD, WpO_guardD, step, Opd.get, put_app, put_none, ne_eq, reduceCtorEq, not_false_eq_true, not_true_eq_false, implies_true, slcLen, Option.map_some, Option.map_none, Option.bind_some, Option.bind_none, bin, binInt, reduceIte, Nat.reduceEqDiff, List.getD_cons_zero, List.getD_cons_succ, IntKind.signed, indexV, asNat?, loadV, cutCells, unary, evRess, evRes1, oneOrTup, wrapV, target, getsO, List.nil_append, List.append_nil, List.cons_append, Bool.false_eq_true, Bool.true_eq_false, decide_eq_true_eq, Bool.not_eq_true', decide_eq_false_iff_not, Bool.not_true, Bool.not_false, List.take_length, and_true, true_and, Int.ofNat_lt, Int.ofNat_le, Int.natCast_nonneg, Int.toNat_natCast, ge_iff_le, gt_iff_lt, if_true, if_false, List.length_map, decide_true, decide_false, int_beq, int_bne, bne_iff_ne, beq_iff_eq, Int.natCast_inj, Bool.and_eq_true, decide_not, Decidable.not_not, boundO, sliceV, exTo, Nat.zero_le, Nat.le_refl, Bool.or_true, beq_self_eq_true, Option.getD_some, Option.getD_none, List.drop_zero, Nat.sub_zero, and_self, or_true, true_or, or_self, false_or, or_false, and_false, false_and, Cp.isFull, isNil, moveV, Nat.add_zero, Nat.zero_add, Int.reduceLE, Int.reduceLT, Int.reduceEq, Int.reduceBEq, Int.reduceGT, Int.reduceGE, Nat.reduceLT, Nat.reduceLeDiff, e6, e5, e0, h1, h1', Nat.mul_one, hg, hb, List.getElem?_cons_zero, hle, bs_size, bs_out, callD_ret (hasPrefix_r _ _ _ _ _), hp]
      exact ⟨27 - (i + 1), by omega, i + 1, rfl, by omega, by rw [wrap_i64 (by omega) (by omega)]; rfl, hf.2 hp⟩
    · have hlen : (signsL[i]).length ≤ l.length := by
        unfold preB at hp
        simp only [Bool.and_eq_true, decide_eq_true_eq] at hp
        exact hp.1
      have s1 := fun h => slice_from h ex l _ hlen
      have hst : ∀ ex' l', storeV base h' 1 (.ptr b 0) (.slc ex' 1 (l'.map bv)) = some (h'.set b (scB ex' l' n)) := fun ex' l' => by
        have := st_b (base := base) (b := b) (h := h') (ex := ex) (l := l) (n := n) (ex' := ex') (l' := l') hlt
        rwa [set_self_of hb] at this
      simp only [WpC_skip, WpC_ret, WpC_exit, WpC_region, WpC_seqD, WpC_block, WpC_condD, thenC_normal, thenC_ret, thenC_exit, thenQ_normal, thenQ_ret, thenQ_exit, condQ_true, condQ_false, condQ_bool, opQ_some, opQ_none, guardQ_tt, guardQ_tf, guardQ_ft, guardQ_ff, guardQ_no, blockQ_normal, blockQ_ret, blockQ_exit, endP_ret, endP_normal, endI_ret, endI_normal, resQ_some, Frz_sci, Frz_slci, FrzL_nili, FrzL_consi, Frz_tupi, Frz_aggi, Frz_ifci, oneCell, WpO_keep1, offV_ptr, offV_nil, blkNe_ptr, blkNe_sc, blkNe_slc, blkNe_eptr, blkNe_agg, blkNe_hsl, AOp.opds, Nat.reduceAdd, WpO_opD, WpO_nil, WpO_callD, WpO_guardD, step, Opd.get, put_app, put_none, ne_eq, reduceCtorEq, not_false_eq_true, not_true_eq_false, implies_true, slcLen, Option.map_some, Option.map_none, Option.bind_some, Option.bind_none, bin, binInt, reduceIte, Nat.reduceEqDiff, List.getD_cons_zero, List.getD_cons_succ, IntKind.signed, indexV, asNat?, loadV, cutCells, unary, evRess, evRes1, oneOrTup, wrapV, target, getsO, List.nil_append, List.append_nil, List.cons_append, Bool.false_eq_true, Bool.true_eq_false, decide_eq_true_eq, Bool.not_eq_true', decide_eq_false_iff_not, Bool.not_true, Bool.not_false, List.take_length, and_true, true_and, Int.ofNat_lt, Int.ofNat_le, Int.natCast_nonneg, Int.toNat_natCast, ge_iff_le, gt_iff_lt, if_true, if_false, List.length_map, decide_true, decide_false, int_beq, int_bne, bne_iff_ne, beq_iff_eq, Int.natCast_inj, Bool.and_eq_true, decide_not, Decidable.not_not, boundO, exTo, Nat.zero_le, Nat.le_refl, Bool.or_true, beq_self_eq_true, Option.getD_some, Option.getD_none, List.drop_zero, Nat.sub_zero, and_self, or_true, true_or, or_self, false_or, or_false, and_false, false_and, Cp.isFull, isNil, moveV, Nat.add_zero, Nat.zero_add, Int.reduceLE, Int.reduceLT, Int.reduceEq, Int.reduceBEq, Int.reduceGT, Int.reduceGE, Nat.reduceLT, Nat.reduceLeDiff, e6, e5, e0, h1, h1', Nat.mul_one, hg, hb, List.getElem?_cons_zero, hle, bs_out, callD_ret (hasPrefix_r _ _ _ _ _), hp, bs_size, s1, hst]
      have : signF l = some signsL[i] := hf.1 hp
      rw [this]
      exact ⟨_, rfl, rfl⟩
  · have h1' : ¬ (i : Int) < 27 := by omega
    simp only [WpC_skip, WpC_ret, WpC_exit, WpC_region, WpC_seqD, WpC_block, WpC_condD, thenC_normal, thenC_ret, thenC_exit, thenQ_normal, thenQ_ret, thenQ_exit, condQ_true, condQ_false, condQ_bool, opQ_some, opQ_none, guardQ_tt, guardQ_tf, guardQ_ft, guardQ_ff, guardQ_no, blockQ_normal, blockQ_ret, blockQ_exit, endP_ret, endP_normal, endI_ret, endI_normal, resQ_some, Frz_sci, Frz_slci, FrzL_nili, FrzL_consi, Frz_tupi, Frz_aggi, Frz_ifci, oneCell, WpO_keep1, offV_ptr, offV_nil, blkNe_ptr, blkNe_sc, blkNe_slc, blkNe_eptr, blkNe_agg, blkNe_hsl, AOp.opds, Nat.reduceAdd, WpO_opD, WpO_nil, WpO_callD, WpO_guardD, step, Opd.get, put_app, put_none, ne_eq, reduceCtorEq, not_false_eq_true, not_true_eq_false, implies_true, slcLen, Option.map_some, Option.map_none, Option.bind_some, Option.bind_none, bin, binInt, reduceIte, Nat.reduceEqDiff, List.getD_cons_zero, List.getD_cons_succ, IntKind.signed, indexV, asNat?, loadV, cutCells, unary, evRess, evRes1, oneOrTup, wrapV, target, getsO, List.nil_append, List.append_nil, List.cons_append, Bool.false_eq_true, Bool.true_eq_false, decide_eq_true_eq, Bool.not_eq_true', decide_eq_false_iff_not, Bool.not_true, Bool.not_false, List.take_length, and_true, true_and, Int.ofNat_lt, Int.ofNat_le, Int.natCast_nonneg, Int.toNat_natCast, ge_iff_le, gt_iff_lt, if_true, if_false, List.length_map, decide_true, decide_false, int_beq, int_bne, bne_iff_ne, beq_iff_eq, Int.natCast_inj, Bool.and_eq_true, decide_not, Decidable.not_not, boundO, sliceV, exTo, Nat.zero_le, Nat.le_refl, Bool.or_true, beq_self_eq_true, Option.getD_some, Option.getD_none, List.drop_zero, Nat.sub_zero, and_self, or_true, true_or, or_self, false_or, or_false, and_false, false_and, Cp.isFull, isNil, moveV, Nat.add_zero, Nat.zero_add, Int.reduceLE, Int.reduceLT, Int.reduceEq, Int.reduceBEq, Int.reduceGT, Int.reduceGE, Nat.reduceLT, Nat.reduceLeDiff, e6, e5, e0, h1, h1']
    have hall : signsL.take i = signsL := List.take_of_length_le (by omega)
    rw [hall] at hno
    have : signF l = none := hno
    rw [this]
    refine ⟨ex, rfl, ?_⟩
    exact (set_self_of hb).symm
end Go.Am
end
section
/- Am: the scanner's tokens. -/
set_option linter.unusedSimpArgs false
namespace Go.Am

abbrev Zc : List V := [.sc (.int .i64 (0)), .sc (.string ⟨#[]⟩), .sc (.int .i64 (0)), .sc (.int .i64 (0))]
abbrev Tk := Nat × List UInt8 × Nat
abbrev rowOf (t : Tk) (line : Nat) : List V := [V.int t.1, .sc (.string (bs t.2.1)), V.int t.2.2, V.int line]
def digB (c : UInt8) : Bool := digitB c.toNat
/-- No letter comes next. -/
def farB : List UInt8 → Bool
  | [] => true
  | c :: _ => !letterB c.toNat
/-- The first token of a text, and what is left. -/
def tok : List UInt8 → Option (Tk × List UInt8)
  | [] => none
  | c :: r =>
    if letterB c.toNat = true then (if ((c :: r).takeWhile eitherB).length ≤ 32 then some ((1, (c :: r).takeWhile eitherB, 0), (c :: r).dropWhile eitherB) else none)
    else if digitB c.toNat = true then (if valL ((c :: r).takeWhile digB) < 2 ^ 63 ∧ farB ((c :: r).dropWhile digB) = true then some ((2, [], valL ((c :: r).takeWhile digB)), (c :: r).dropWhile digB) else none)
    else (signF (c :: r)).map fun m => ((3, m, 0), (c :: r).drop m.length)

section
variable {base N off : Nat} {hs r : Heap} {A : Obj} {t : TypeId} {cs : List V} {v : Value} {a b c d : Value}
theorem st1s (hN : hs.length = N) (ho : off < cs.length) : storeV base (hs ++ A :: .box t cs :: r) 1 (.ptr (N + 1) off) (.sc v) = some (hs ++ A :: .box t (cs.set off (.sc v)) :: r) := by
  subst hN
  refine (store_box (n := 1) get_at1 rfl rfl (by omega) (by simp [mayStore, refsLts, refsLt, V.cells])).trans ?_
  simp only [V.cells, List.set_append_right _ _ (show hs.length ≤ hs.length + 1 by omega), Nat.add_sub_cancel_left, List.set_cons_succ, List.set_cons_zero]
  have : putCells cs off [V.sc v] = cs.set off (.sc v) := by
    unfold putCells
    rw [List.set_eq_take_append_cons_drop, if_pos ho]
    simp
  rw [this]
theorem st0a (hN : hs.length = N) (hc : cs.length = 4) : storeV base (hs ++ .box t cs :: r) 4 (.ptr N 0) (.agg [.sc a, .sc b, .sc c, .sc d]) = some (hs ++ .box t [.sc a, .sc b, .sc c, .sc d] :: r) := by
  subst hN
  refine (store_box (n := 4) get_at0 rfl rfl (by omega) (by simp [mayStore, refsLts, refsLt, V.cells])).trans ?_
  have : putCells cs 0 [.sc a, .sc b, .sc c, .sc d] = [.sc a, .sc b, .sc c, .sc d] := by
    unfold putCells
    simp [← hc]
  simp [V.cells, this]
theorem st1a (hN : hs.length = N) (hc : cs.length = 4) : storeV base (hs ++ A :: .box t cs :: r) 4 (.ptr (N + 1) 0) (.agg [.sc a, .sc b, .sc c, .sc d]) = some (hs ++ A :: .box t [.sc a, .sc b, .sc c, .sc d] :: r) := by
  subst hN
  refine (store_box (n := 4) get_at1 rfl rfl (by omega) (by simp [mayStore, refsLts, refsLt, V.cells])).trans ?_
  have : putCells cs 0 [.sc a, .sc b, .sc c, .sc d] = [.sc a, .sc b, .sc c, .sc d] := by
    unfold putCells
    simp [← hc]
  simp only [V.cells, this, List.set_append_right _ _ (show hs.length ≤ hs.length + 1 by omega), Nat.add_sub_cancel_left, List.set_cons_succ, List.set_cons_zero]
end

theorem take4 (a b c d : V) : [a, b, c, d].take 4 = [a, b, c, d] := rfl
theorem token_r {base b : Nat} {ex : Cp} {c : UInt8} {r : List UInt8} {n : Nat} {h : Heap} (hb : h[b]? = some (scB ex (c :: r) n)) (hl : n + (c :: r).length < 2 ^ 30) :
    ∃ (q : Cp × List UInt8 × Tk × Heap), (∀ t rest, tok (c :: r) = some (t, rest) → t = q.2.2.1 ∧ rest = q.2.1) ∧
      WpF S0 base k_lex_scanner_token [.ptr b 0] h fun v h' => v = .tup [.agg (rowOf q.2.2.1 n), .bool (tok (c :: r)).isSome] ∧ h' = h.set b (scB q.1 q.2.1 n) ++ q.2.2.2 := by
  have hlt := lt_of_get hb
  have g0 : ∀ r', (h ++ r')[b]? = some (scB ex (c :: r) n) := fun r' => by rw [get_low hlt, hb]
  have hz : ((c :: r).map bv)[0]? = some (bv c) := rfl
  have hf : fillParts Zc [(3, 1, V.int n)] = some [.sc (.int .i64 (0)), .sc (.string ⟨#[]⟩), .sc (.int .i64 (0)), V.int n] := rfl
  have hl4 : Zc.length = 4 := rfl
  have hne : (h.length + 1 != h.length) = true := by simp
  cases h1 : letterB c.toNat
  · cases h2 : digitB c.toNat
    · obtain ⟨ex', hw⟩ := sign_r (base := base) (ex := ex) (l := c :: r) (n := n) (h := h ++ [.box 36 Zc, .box 36 [.sc (.int .i64 (0)), .sc (.string ⟨#[]⟩), .sc (.int .i64 (0)), V.int n]]) (g0 _) (by omega)
      rw [set_low hlt] at hw
      refine ⟨⟨ex', (c :: r).drop ((signF (c :: r)).getD []).length, (3, (signF (c :: r)).getD [], 0), [.box 36 (rowOf (3, (signF (c :: r)).getD [], 0) n), .box 36 (rowOf (3, (signF (c :: r)).getD [], 0) n)]⟩, ?_, ?_⟩
      · intro t rest e
        simp only [tok, h1, h2, Bool.false_eq_true, if_false, Option.map_eq_some_iff, Prod.mk.injEq] at e
        obtain ⟨m, e1, e2, e3⟩ := e
        rw [e1]
        exact ⟨e2.symm, e3.symm⟩
      have htk : (tok (c :: r)).isSome = !((bs ((signF (c :: r)).getD [])).toList == (⟨#[]⟩ : ByteArray).toList) := by
        simp only [tok, h1, h2, Bool.false_eq_true, if_false, Option.isSome_map, empty_list, bs_size]
        cases hsf : signF (c :: r) with
        | none => rfl
        | some m =>
          have hm := signs_ne m (List.mem_of_find?_eq_some hsf)
          simp [hm]
      rw [htk]
      refine WpF_imp (A := f_lex_scanner_token) rfl rfl rfl rfl ?_
      simp only [f_lex_scanner_token]
      have hN : (h.set b (scB ex' ((c :: r).drop ((signF (c :: r)).getD []).length) n)).length = h.length := List.length_set ..
      have q1 : ∀ (A B : Obj), (h.set b (scB ex' ((c :: r).drop ((signF (c :: r)).getD []).length) n) ++ [A, B])[h.length + 1]? = some B := fun A B => by rw [← hN]; exact get_at1
      have q0 : ∀ (A B : Obj), (h.set b (scB ex' ((c :: r).drop ((signF (c :: r)).getD []).length) n) ++ [A, B])[h.length]? = some A := fun A B => by rw [← hN]; exact get_at0
      simp only [WpC_skip, WpC_ret, WpC_exit, WpC_region, WpC_seqD, WpC_block, WpC_condD, thenC_normal, thenC_ret, thenC_exit, thenQ_normal, thenQ_ret, thenQ_exit, condQ_true, condQ_false, condQ_bool, opQ_some, opQ_none, guardQ_tt, guardQ_tf, guardQ_ft, guardQ_ff, guardQ_no, blockQ_normal, blockQ_ret, blockQ_exit, endP_ret, endP_normal, endI_ret, endI_normal, resQ_some, Frz_sci, Frz_slci, FrzL_nili, FrzL_consi, Frz_tupi, Frz_aggi, Frz_ifci, oneCell, WpO_keep1, offV_ptr, offV_nil, blkNe_ptr, blkNe_sc, blkNe_slc, blkNe_eptr, blkNe_agg, blkNe_hsl, AOp.opds, Nat.reduceAdd, WpO_opD, WpO_nil, WpO_callD, WpO_guardD, step, Opd.get, put_app, put_none, ne_eq, reduceCtorEq, not_false_eq_true, not_true_eq_false, implies_true, slcLen, Option.map_some, Option.map_none, Option.bind_some, Option.bind_none, bin, binInt, reduceIte, Nat.reduceEqDiff, List.getD_cons_zero, List.getD_cons_succ, IntKind.signed, indexV, asNat?, loadV, cutCells, unary, evRess, evRes1, oneOrTup, wrapV, target, getsO, List.nil_append, List.append_nil, List.cons_append, Bool.false_eq_true, Bool.true_eq_false, decide_eq_true_eq, Bool.not_eq_true', decide_eq_false_iff_not, Bool.not_true, Bool.not_false, List.take_length, and_true, true_and, Int.ofNat_lt, Int.ofNat_le, Int.natCast_nonneg, Int.toNat_natCast, ge_iff_le, gt_iff_lt, if_true, if_false, List.length_map, decide_true, decide_false, int_beq, int_bne, bne_iff_ne, beq_iff_eq, Int.natCast_inj, Bool.and_eq_true, decide_not, Decidable.not_not, boundO, sliceV, exTo, Nat.zero_le, Nat.le_refl, Bool.or_true, beq_self_eq_true, Option.getD_some, Option.getD_none, List.drop_zero, Nat.sub_zero, and_self, or_true, true_or, or_self, false_or, or_false, and_false, false_and, Cp.isFull, isNil, moveV, Nat.add_zero, Nat.zero_add, Int.reduceLE, Int.reduceLT, Int.reduceEq, Int.reduceBEq, Int.reduceGT, Int.reduceGE, Nat.reduceLT, Nat.reduceLeDiff, List.length_append, List.length_cons, List.length_nil, List.append_assoc, g0, hb, getParts, hf, st1a rfl, hl4, List.getElem?_cons_zero, List.getElem?_cons_succ, hz, Int.toNat_zero, callD_ret (letter_r _ _), callD_ret (digit_r _ _), h1, h2, callD_ret hw, st1s hN, q1, q0, List.set_cons_zero, List.set_cons_succ, hne, binStr, take4, st0a hN]
      exact ⟨rfl, rfl⟩
    · obtain ⟨ex', hw⟩ := run_r (base := base) (g := 57) (p := digB) (ex := ex) (l := c :: r) (n := n) (h := h ++ [.box 36 Zc, .box 36 [.sc (.int .i64 (0)), .sc (.string ⟨#[]⟩), .sc (.int .i64 (0)), V.int n]]) (g0 _) (by omega) (fun base h c => digit_r _ _)
      rw [set_low hlt] at hw
      have hdw : ∀ x ∈ (c :: r).takeWhile digB, digitB x.toNat = true := fun x hx => by
        exact List.all_eq_true.1 List.all_takeWhile x hx
      have hnw : (c :: r).takeWhile digB ≠ [] := by
        rw [List.takeWhile_cons_of_pos (show digB c = true from h2)]
        simp
      have hlw : ((c :: r).takeWhile digB).length ≤ (c :: r).length := (List.takeWhile_sublist _).length_le
      have hN : (h.set b (scB ex' ((c :: r).dropWhile digB) n)).length = h.length := List.length_set ..
      generalize hH : h.set b (scB ex' ((c :: r).dropWhile digB) n) = H at *
      obtain ⟨ext, ha⟩ := atoi_r (base := base) ((c :: r).takeWhile digB) (H ++ [.box 36 Zc, .box 36 [.sc (.int .i64 (0)), .sc (.string ⟨#[]⟩), .sc (.int .i64 (0)), V.int n], .box 58 [.fn (.func 57) [] []]]) hdw hnw (by omega)
      rw [List.append_assoc] at hw
      have hgb : ∀ r', (H ++ r')[b]? = some (scB ex' ((c :: r).dropWhile digB) n) := fun r' => by
        rw [get_low (by omega), ← hH, set_get hlt]
      have q1 : ∀ (A B : Obj) r', (H ++ A :: B :: r')[h.length + 1]? = some B := fun A B r' => by rw [← hN]; exact get_at1
      have q0 : ∀ (A : Obj) r', (H ++ A :: r')[h.length]? = some A := fun A r' => by rw [← hN]; exact get_at0
      by_cases hv : valL ((c :: r).takeWhile digB) < 2 ^ 63
      · rw [if_pos hv] at ha
        refine ⟨⟨ex', (c :: r).dropWhile digB, (2, [], valL ((c :: r).takeWhile digB)), .box 36 (rowOf (2, [], valL ((c :: r).takeWhile digB)) n) :: .box 36 (rowOf (2, [], valL ((c :: r).takeWhile digB)) n) :: .box 58 [.fn (.func 57) [] []] :: ext⟩, ?_, ?_⟩
        · intro t rest e
          simp only [tok, h1, h2, Bool.false_eq_true, if_false, if_true, hv, true_and] at e
          split at e
          · simp only [Option.some.injEq, Prod.mk.injEq] at e
            exact ⟨e.1.symm, e.2.symm⟩
          · simp at e
        have htk : (tok (c :: r)).isSome = farB ((c :: r).dropWhile digB) := by
          simp only [tok, h1, h2, Bool.false_eq_true, if_false, if_true, hv, true_and]
          cases farB ((c :: r).dropWhile digB) <;> rfl
        rw [htk]
        refine WpF_imp (A := f_lex_scanner_token) rfl rfl rfl rfl ?_
        simp only [f_lex_scanner_token]
        cases hdr : (c :: r).dropWhile digB with
        | nil =>
          rw [hdr] at hgb
          simp only [WpC_skip, WpC_ret, WpC_exit, WpC_region, WpC_seqD, WpC_block, WpC_condD, thenC_normal, thenC_ret, thenC_exit, thenQ_normal, thenQ_ret, thenQ_exit, condQ_true, condQ_false, condQ_bool, opQ_some, opQ_none, guardQ_tt, guardQ_tf, guardQ_ft, guardQ_ff, guardQ_no, blockQ_normal, blockQ_ret, blockQ_exit, endP_ret, endP_normal, endI_ret, endI_normal, resQ_some, Frz_sci, Frz_slci, FrzL_nili, FrzL_consi, Frz_tupi, Frz_aggi, Frz_ifci, oneCell, WpO_keep1, offV_ptr, offV_nil, blkNe_ptr, blkNe_sc, blkNe_slc, blkNe_eptr, blkNe_agg, blkNe_hsl, AOp.opds, Nat.reduceAdd, WpO_opD, WpO_nil, WpO_callD, WpO_guardD, step, Opd.get, put_app, put_none, ne_eq, reduceCtorEq, not_false_eq_true, not_true_eq_false, implies_true, slcLen, Option.map_some, Option.map_none, Option.bind_some, Option.bind_none, bin, binInt, reduceIte, Nat.reduceEqDiff, List.getD_cons_zero, List.getD_cons_succ, IntKind.signed, indexV, asNat?, loadV, cutCells, unary, evRess, evRes1, oneOrTup, wrapV, target, getsO, List.nil_append, List.append_nil, List.cons_append, Bool.false_eq_true, Bool.true_eq_false, decide_eq_true_eq, Bool.not_eq_true', decide_eq_false_iff_not, Bool.not_true, Bool.not_false, List.take_length, and_true, true_and, Int.ofNat_lt, Int.ofNat_le, Int.natCast_nonneg, Int.toNat_natCast, ge_iff_le, gt_iff_lt, if_true, if_false, List.length_map, decide_true, decide_false, int_beq, int_bne, bne_iff_ne, beq_iff_eq, Int.natCast_inj, Bool.and_eq_true, decide_not, Decidable.not_not, boundO, sliceV, exTo, Nat.zero_le, Nat.le_refl, Bool.or_true, beq_self_eq_true, Option.getD_some, Option.getD_none, List.drop_zero, Nat.sub_zero, and_self, or_true, true_or, or_self, false_or, or_false, and_false, false_and, Cp.isFull, isNil, moveV, Nat.add_zero, Nat.zero_add, Int.reduceLE, Int.reduceLT, Int.reduceEq, Int.reduceBEq, Int.reduceGT, Int.reduceGE, Nat.reduceLT, Nat.reduceLeDiff, List.length_append, List.length_cons, List.length_nil, List.append_assoc, g0, hb, getParts, hf, st1a rfl, hl4, List.getElem?_cons_zero, List.getElem?_cons_succ, hz, Int.toNat_zero, callD_ret (letter_r _ _), callD_ret (digit_r _ _), h1, h2, callD_ret hw, callD_ret ha, hgb, st1s hN, q1, q0, List.set_cons_zero, List.set_cons_succ, hne, take4, st0a hN, List.map_nil, Int.cast_ofNat_Int, Int.natCast_zero, farB]
          rw [hdr] at hH
          rw [← hH]
          exact ⟨rfl, rfl⟩
        | cons d r' =>
          rw [hdr] at hgb
          have n0 : ¬ ((r'.length + 1 : Nat) : Int) = 0 := by omega
          have hz2 : ((d :: r').map bv)[0]? = some (bv d) := rfl
          simp only [WpC_skip, WpC_ret, WpC_exit, WpC_region, WpC_seqD, WpC_block, WpC_condD, thenC_normal, thenC_ret, thenC_exit, thenQ_normal, thenQ_ret, thenQ_exit, condQ_true, condQ_false, condQ_bool, opQ_some, opQ_none, guardQ_tt, guardQ_tf, guardQ_ft, guardQ_ff, guardQ_no, blockQ_normal, blockQ_ret, blockQ_exit, endP_ret, endP_normal, endI_ret, endI_normal, resQ_some, Frz_sci, Frz_slci, FrzL_nili, FrzL_consi, Frz_tupi, Frz_aggi, Frz_ifci, oneCell, WpO_keep1, offV_ptr, offV_nil, blkNe_ptr, blkNe_sc, blkNe_slc, blkNe_eptr, blkNe_agg, blkNe_hsl, AOp.opds, Nat.reduceAdd, WpO_opD, WpO_nil, WpO_callD, WpO_guardD, step, Opd.get, put_app, put_none, ne_eq, reduceCtorEq, not_false_eq_true, not_true_eq_false, implies_true, slcLen, Option.map_some, Option.map_none, Option.bind_some, Option.bind_none, bin, binInt, reduceIte, Nat.reduceEqDiff, List.getD_cons_zero, List.getD_cons_succ, IntKind.signed, indexV, asNat?, loadV, cutCells, unary, evRess, evRes1, oneOrTup, wrapV, target, getsO, List.nil_append, List.append_nil, List.cons_append, Bool.false_eq_true, Bool.true_eq_false, decide_eq_true_eq, Bool.not_eq_true', decide_eq_false_iff_not, Bool.not_true, Bool.not_false, List.take_length, and_true, true_and, Int.ofNat_lt, Int.ofNat_le, Int.natCast_nonneg, Int.toNat_natCast, ge_iff_le, gt_iff_lt, if_true, if_false, List.length_map, decide_true, decide_false, int_beq, int_bne, bne_iff_ne, beq_iff_eq, Int.natCast_inj, Bool.and_eq_true, decide_not, Decidable.not_not, boundO, sliceV, exTo, Nat.zero_le, Nat.le_refl, Bool.or_true, beq_self_eq_true, Option.getD_some, Option.getD_none, List.drop_zero, Nat.sub_zero, and_self, or_true, true_or, or_self, false_or, or_false, and_false, false_and, Cp.isFull, isNil, moveV, Nat.add_zero, Nat.zero_add, Int.reduceLE, Int.reduceLT, Int.reduceEq, Int.reduceBEq, Int.reduceGT, Int.reduceGE, Nat.reduceLT, Nat.reduceLeDiff, List.length_append, List.length_cons, List.length_nil, List.append_assoc, g0, hb, getParts, hf, st1a rfl, hl4, List.getElem?_cons_zero, List.getElem?_cons_succ, hz, Int.toNat_zero, callD_ret (letter_r _ _), callD_ret (digit_r _ _), h1, h2, callD_ret hw, callD_ret ha, hgb, st1s hN, q1, q0, List.set_cons_zero, List.set_cons_succ, hne, take4, st0a hN, n0, hz2, farB]
          rw [hdr] at hH
          rw [← hH]
          exact ⟨rfl, rfl⟩
      · rw [if_neg hv] at ha
        refine ⟨⟨ex', (c :: r).dropWhile digB, (2, [], 9223372036854775807), .box 36 (rowOf (2, [], 9223372036854775807) n) :: .box 36 (rowOf (2, [], 9223372036854775807) n) :: .box 58 [.fn (.func 57) [] []] :: ext⟩, ?_, ?_⟩
        · intro t rest e
          simp [tok, h1, h2, hv] at e
        have htk : (tok (c :: r)).isSome = false := by
          simp [tok, h1, h2, hv]
        rw [htk]
        refine WpF_imp (A := f_lex_scanner_token) rfl rfl rfl rfl ?_
        simp only [f_lex_scanner_token]
        simp only [WpC_skip, WpC_ret, WpC_exit, WpC_region, WpC_seqD, WpC_block, WpC_condD, thenC_normal, thenC_ret, thenC_exit, thenQ_normal, thenQ_ret, thenQ_exit, condQ_true, condQ_false, condQ_bool, opQ_some, opQ_none, guardQ_tt, guardQ_tf, guardQ_ft, guardQ_ff, guardQ_no, blockQ_normal, blockQ_ret, blockQ_exit, endP_ret, endP_normal, endI_ret, endI_normal, resQ_some, Frz_sci, Frz_slci, FrzL_nili, FrzL_consi, Frz_tupi, Frz_aggi, Frz_ifci, oneCell, WpO_keep1, offV_ptr, offV_nil, blkNe_ptr, blkNe_sc, blkNe_slc, blkNe_eptr, blkNe_agg, blkNe_hsl, AOp.opds, Nat.reduceAdd, WpO_opD, WpO_nil, WpO_callD, WpO_guardD, step, Opd.get, put_app, put_none, ne_eq, reduceCtorEq, not_false_eq_true, not_true_eq_false, implies_true, slcLen, Option.map_some, Option.map_none, Option.bind_some, Option.bind_none, bin, binInt, reduceIte, Nat.reduceEqDiff, List.getD_cons_zero, List.getD_cons_succ, IntKind.signed, indexV, asNat?, loadV, cutCells, unary, evRess, evRes1, oneOrTup, wrapV, target, getsO, List.nil_append, List.append_nil, List.cons_append, Bool.false_eq_true, Bool.true_eq_false, decide_eq_true_eq, Bool.not_eq_true', decide_eq_false_iff_not, Bool.not_true, Bool.not_false, List.take_length, and_true, true_and, Int.ofNat_lt, Int.ofNat_le, Int.natCast_nonneg, Int.toNat_natCast, ge_iff_le, gt_iff_lt, if_true, if_false, List.length_map, decide_true, decide_false, int_beq, int_bne, bne_iff_ne, beq_iff_eq, Int.natCast_inj, Bool.and_eq_true, decide_not, Decidable.not_not, boundO, sliceV, exTo, Nat.zero_le, Nat.le_refl, Bool.or_true, beq_self_eq_true, Option.getD_some, Option.getD_none, List.drop_zero, Nat.sub_zero, and_self, or_true, true_or, or_self, false_or, or_false, and_false, false_and, Cp.isFull, isNil, moveV, Nat.add_zero, Nat.zero_add, Int.reduceLE, Int.reduceLT, Int.reduceEq, Int.reduceBEq, Int.reduceGT, Int.reduceGE, Nat.reduceLT, Nat.reduceLeDiff, List.length_append, List.length_cons, List.length_nil, List.append_assoc, g0, hb, getParts, hf, st1a rfl, hl4, List.getElem?_cons_zero, List.getElem?_cons_succ, hz, Int.toNat_zero, callD_ret (letter_r _ _), callD_ret (digit_r _ _), h1, h2, callD_ret hw, callD_ret ha, hgb, st1s hN, q1, q0, List.set_cons_zero, List.set_cons_succ, hne, take4, st0a hN]
        rw [← hH]
        exact ⟨rfl, rfl⟩
  · obtain ⟨ex', hw⟩ := run_r (base := base) (g := 43) (p := eitherB) (ex := ex) (l := c :: r) (n := n) (h := h ++ [.box 36 Zc, .box 36 [.sc (.int .i64 (0)), .sc (.string ⟨#[]⟩), .sc (.int .i64 (0)), V.int n]]) (g0 _) (by omega) (fun base h c => either_r _ _)
    rw [set_low hlt, List.append_assoc] at hw
    have hN : (h.set b (scB ex' ((c :: r).dropWhile eitherB) n)).length = h.length := List.length_set ..
    generalize hH : h.set b (scB ex' ((c :: r).dropWhile eitherB) n) = H at *
    have q1 : ∀ (A B : Obj) r', (H ++ A :: B :: r')[h.length + 1]? = some B := fun A B r' => by rw [← hN]; exact get_at1
    have q0 : ∀ (A : Obj) r', (H ++ A :: r')[h.length]? = some A := fun A r' => by rw [← hN]; exact get_at0
    refine ⟨⟨ex', (c :: r).dropWhile eitherB, (1, (c :: r).takeWhile eitherB, 0), [.box 36 (rowOf (1, (c :: r).takeWhile eitherB, 0) n), .box 36 (rowOf (1, (c :: r).takeWhile eitherB, 0) n), .box 58 [.fn (.func 43) [] []]]⟩, ?_, ?_⟩
    · intro t rest e
      simp only [tok, h1, if_true] at e
      split at e
      · simp only [Option.some.injEq, Prod.mk.injEq] at e
        exact ⟨e.1.symm, e.2.symm⟩
      · simp at e
    refine WpF_imp (A := f_lex_scanner_token) rfl rfl rfl rfl ?_
    simp only [f_lex_scanner_token]
    by_cases h32 : ((c :: r).takeWhile eitherB).length ≤ 32
    · have h32' : ((((c :: r).takeWhile eitherB).length : Nat) : Int) ≤ 32 := by omega
      have htk : (tok (c :: r)).isSome = true := by simp only [tok, h1, if_true, h32, Option.isSome_some]
      rw [htk]
      simp only [WpC_skip, WpC_ret, WpC_exit, WpC_region, WpC_seqD, WpC_block, WpC_condD, thenC_normal, thenC_ret, thenC_exit, thenQ_normal, thenQ_ret, thenQ_exit, condQ_true, condQ_false, condQ_bool, opQ_some, opQ_none, guardQ_tt, guardQ_tf, guardQ_ft, guardQ_ff, guardQ_no, blockQ_normal, blockQ_ret, blockQ_exit, endP_ret, endP_normal, endI_ret, endI_normal, resQ_some, Frz_sci, Frz_slci, FrzL_nili, FrzL_consi, Frz_tupi, Frz_aggi, Frz_ifci, oneCell, WpO_keep1, offV_ptr, offV_nil, blkNe_ptr, blkNe_sc, blkNe_slc, blkNe_eptr, blkNe_agg, blkNe_hsl, AOp.opds, Nat.reduceAdd, WpO_opD, WpO_nil, WpO_callD, WpO_guardD, step, Opd.get, put_app, put_none, ne_eq, reduceCtorEq, not_false_eq_true, not_true_eq_false, implies_true, slcLen, Option.map_some, Option.map_none, Option.bind_some, Option.bind_none, bin, binInt, reduceIte, Nat.reduceEqDiff, List.getD_cons_zero, List.getD_cons_succ, IntKind.signed, indexV, asNat?, loadV, cutCells, unary, evRess, evRes1, oneOrTup, wrapV, target, getsO, List.nil_append, List.append_nil, List.cons_append, Bool.false_eq_true, Bool.true_eq_false, decide_eq_true_eq, Bool.not_eq_true', decide_eq_false_iff_not, Bool.not_true, Bool.not_false, List.take_length, and_true, true_and, Int.ofNat_lt, Int.ofNat_le, Int.natCast_nonneg, Int.toNat_natCast, ge_iff_le, gt_iff_lt, if_true, if_false, List.length_map, decide_true, decide_false, int_beq, int_bne, bne_iff_ne, beq_iff_eq, Int.natCast_inj, Bool.and_eq_true, decide_not, Decidable.not_not, boundO, sliceV, exTo, Nat.zero_le, Nat.le_refl, Bool.or_true, beq_self_eq_true, Option.getD_some, Option.getD_none, List.drop_zero, Nat.sub_zero, and_self, or_true, true_or, or_self, false_or, or_false, and_false, false_and, Cp.isFull, isNil, moveV, Nat.add_zero, Nat.zero_add, Int.reduceLE, Int.reduceLT, Int.reduceEq, Int.reduceBEq, Int.reduceGT, Int.reduceGE, Nat.reduceLT, Nat.reduceLeDiff, List.length_append, List.length_cons, List.length_nil, List.append_assoc, g0, hb, getParts, hf, st1a rfl, hl4, List.getElem?_cons_zero, List.getElem?_cons_succ, hz, Int.toNat_zero, callD_ret (letter_r _ _), callD_ret (digit_r _ _), h1, callD_ret hw, st1s hN, q1, q0, List.set_cons_zero, List.set_cons_succ, hne, take4, st0a hN, bs_size, h32']
      rw [← hH]
      exact ⟨rfl, rfl⟩
    · have h32' : ¬ ((((c :: r).takeWhile eitherB).length : Nat) : Int) ≤ 32 := by omega
      have htk : (tok (c :: r)).isSome = false := by simp only [tok, h1, if_true, h32, if_false, Option.isSome_none]
      rw [htk]
      simp only [WpC_skip, WpC_ret, WpC_exit, WpC_region, WpC_seqD, WpC_block, WpC_condD, thenC_normal, thenC_ret, thenC_exit, thenQ_normal, thenQ_ret, thenQ_exit, condQ_true, condQ_false, condQ_bool, opQ_some, opQ_none, guardQ_tt, guardQ_tf, guardQ_ft, guardQ_ff, guardQ_no, blockQ_normal, blockQ_ret, blockQ_exit, endP_ret, endP_normal, endI_ret, endI_normal, resQ_some, Frz_sci, Frz_slci, FrzL_nili, FrzL_consi, Frz_tupi, Frz_aggi, Frz_ifci, oneCell, WpO_keep1, offV_ptr, offV_nil, blkNe_ptr, blkNe_sc, blkNe_slc, blkNe_eptr, blkNe_agg, blkNe_hsl, AOp.opds, Nat.reduceAdd, WpO_opD, WpO_nil, WpO_callD, WpO_guardD, step, Opd.get, put_app, put_none, ne_eq, reduceCtorEq, not_false_eq_true, not_true_eq_false, implies_true, slcLen, Option.map_some, Option.map_none, Option.bind_some, Option.bind_none, bin, binInt, reduceIte, Nat.reduceEqDiff, List.getD_cons_zero, List.getD_cons_succ, IntKind.signed, indexV, asNat?, loadV, cutCells, unary, evRess, evRes1, oneOrTup, wrapV, target, getsO, List.nil_append, List.append_nil, List.cons_append, Bool.false_eq_true, Bool.true_eq_false, decide_eq_true_eq, Bool.not_eq_true', decide_eq_false_iff_not, Bool.not_true, Bool.not_false, List.take_length, and_true, true_and, Int.ofNat_lt, Int.ofNat_le, Int.natCast_nonneg, Int.toNat_natCast, ge_iff_le, gt_iff_lt, if_true, if_false, List.length_map, decide_true, decide_false, int_beq, int_bne, bne_iff_ne, beq_iff_eq, Int.natCast_inj, Bool.and_eq_true, decide_not, Decidable.not_not, boundO, sliceV, exTo, Nat.zero_le, Nat.le_refl, Bool.or_true, beq_self_eq_true, Option.getD_some, Option.getD_none, List.drop_zero, Nat.sub_zero, and_self, or_true, true_or, or_self, false_or, or_false, and_false, false_and, Cp.isFull, isNil, moveV, Nat.add_zero, Nat.zero_add, Int.reduceLE, Int.reduceLT, Int.reduceEq, Int.reduceBEq, Int.reduceGT, Int.reduceGE, Nat.reduceLT, Nat.reduceLeDiff, List.length_append, List.length_cons, List.length_nil, List.append_assoc, g0, hb, getParts, hf, st1a rfl, hl4, List.getElem?_cons_zero, List.getElem?_cons_succ, hz, Int.toNat_zero, callD_ret (letter_r _ _), callD_ret (digit_r _ _), h1, callD_ret hw, st1s hN, q1, q0, List.set_cons_zero, List.set_cons_succ, hne, take4, st0a hN, bs_size, h32']
      rw [← hH]
      exact ⟨rfl, rfl⟩
end Go.Am
end
