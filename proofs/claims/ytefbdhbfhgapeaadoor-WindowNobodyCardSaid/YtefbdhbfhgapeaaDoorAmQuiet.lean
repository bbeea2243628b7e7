/- Am: functions that leave memory as it is, but for new blocks; what outside functions are known by. -/
import Derived.Test.YtefbdhbfhgapeaaDoorAmRun8
import Derived.Lib.MakeNoZero
import Derived.Laws.Externs
namespace Go.Am
open Go.RowKit (Below)

def AOp.calm (quiet : FuncId → Nat) (op : AOp) : Bool := op.reads || op.grows quiet

def ACode.calm (quiet : FuncId → Nat) : ACode → Bool
  | .skip | .ret | .exit _ | .fail => true
  | .seq a b | .cond _ a b => a.calm quiet && b.calm quiet
  | .region ops => ops.all fun o => o.op.calm quiet
  | .block _ c | .loop c => c.calm quiet

section
variable {call : CallF} {base n : Nat} {quiet : FuncId → Nat}

theorem calm_val (hq : QuietOk quiet call) {o : AOper} {en : Env} {h h' : Heap} {v : V} (hc : o.op.calm quiet = true) (hs : evVal call base o en h = some (v, h')) : ∃ ext, h' = h ++ ext := by
  simp only [AOp.calm, Bool.or_eq_true] at hc
  rcases hc with hc | hc
  · exact ⟨[], by rw [(evVal_reads hc hs).1, List.append_nil]⟩
  · exact evVal_grows hq hc hs

theorem calm_ops (hq : QuietOk quiet call) : ∀ {ops : List AOper} {en en' : Env} {h h' : Heap}, (ops.all fun o => o.op.calm quiet) = true → evOps call base ops en h = some (en', h') → ∃ ext, h' = h ++ ext
  | [], en, en', h, h', _, hs => by
    simp only [evOps, Option.some.injEq, Prod.mk.injEq] at hs
    exact ⟨[], by rw [hs.2, List.append_nil]⟩
  | o :: ops, en, en', h, h', hc, hs => by
    simp only [List.all_cons, Bool.and_eq_true] at hc
    rw [evOps_cons, Option.bind_eq_some_iff] at hs
    obtain ⟨⟨v, h1⟩, e1, e2⟩ := hs
    obtain ⟨x, rfl⟩ := calm_val hq hc.1 e1
    obtain ⟨y, rfl⟩ := calm_ops hq hc.2 e2
    exact ⟨x ++ y, by simp⟩

theorem calm_iter {f : Env → Heap → Option (Ex × Env × Heap)} (hf : ∀ en h ex en' h', f en h = some (ex, en', h') → ∃ ext, h' = h ++ ext) :
    ∀ (k : Nat) {en en' : Env} {h h' : Heap} {ex : Ex}, iter f k en h = some (ex, en', h') → ∃ ext, h' = h ++ ext
  | 0, _, _, _, _, _, hs => by simp [iter] at hs
  | k + 1, en, en', h, h', ex, hs => by
    unfold iter at hs
    split at hs
    · rename_i en1 h1 e1
      obtain ⟨x, rfl⟩ := hf _ _ _ _ _ e1
      obtain ⟨y, rfl⟩ := calm_iter hf k hs
      exact ⟨x ++ y, by simp⟩
    · exact hf _ _ _ _ _ hs

theorem calm_code (hq : QuietOk quiet call) : ∀ {c : ACode} {en en' : Env} {h h' : Heap} {ex : Ex}, c.calm quiet = true → evC call base n c en h = some (ex, en', h') → ∃ ext, h' = h ++ ext
  | .skip, _, _, _, _, _, _, hs => by simp only [evC, Option.some.injEq, Prod.mk.injEq] at hs; exact ⟨[], by rw [hs.2.2, List.append_nil]⟩
  | .ret, _, _, _, _, _, _, hs => by simp only [evC, Option.some.injEq, Prod.mk.injEq] at hs; exact ⟨[], by rw [hs.2.2, List.append_nil]⟩
  | .exit id, _, _, _, _, _, _, hs => by simp only [evC, Option.some.injEq, Prod.mk.injEq] at hs; exact ⟨[], by rw [hs.2.2, List.append_nil]⟩
  | .fail, _, _, _, _, _, _, hs => by simp [evC] at hs
  | .seq a b, en, en', h, h', ex, hc, hs => by
    simp only [ACode.calm, Bool.and_eq_true] at hc
    simp only [evC] at hs
    split at hs
    · rename_i en1 h1 e1
      obtain ⟨x, rfl⟩ := calm_code hq hc.1 e1
      obtain ⟨y, rfl⟩ := calm_code hq hc.2 hs
      exact ⟨x ++ y, by simp⟩
    · exact calm_code hq hc.1 hs
  | .cond c a b, en, en', h, h', ex, hc, hs => by
    simp only [ACode.calm, Bool.and_eq_true] at hc
    simp only [evC] at hs
    split at hs
    · split at hs
      · exact calm_code hq hc.1 hs
      · exact calm_code hq hc.2 hs
    · simp at hs
  | .region ops, en, en', h, h', ex, hc, hs => by
    simp only [ACode.calm] at hc
    simp only [evC] at hs
    split at hs
    · rename_i en1 h1 e1
      simp only [Option.some.injEq, Prod.mk.injEq] at hs
      rw [← hs.2.2]
      exact calm_ops hq hc e1
    · simp at hs
  | .block id c, en, en', h, h', ex, hc, hs => by
    simp only [ACode.calm] at hc
    simp only [evC] at hs
    split at hs
    · rename_i i en1 h1 e1
      obtain ⟨x, rfl⟩ := calm_code hq hc e1
      split at hs
      · simp only [Option.some.injEq, Prod.mk.injEq] at hs
        exact ⟨x, hs.2.2.symm⟩
      · simp only [Option.some.injEq, Prod.mk.injEq] at hs
        exact ⟨x, hs.2.2.symm⟩
    · exact calm_code hq hc hs
  | .loop c, en, en', h, h', ex, hc, hs => by
    simp only [ACode.calm] at hc
    simp only [evC] at hs
    exact calm_iter (fun _ _ _ _ _ e => calm_code hq hc e) n hs

theorem calm_func (hq : QuietOk quiet call) {A : AFunc} {args : List V} {h h' : Heap} {v : V} (hc : A.body.calm quiet = true) (hs : evFunc call n base A args h = some (v, h')) : ∃ ext, h' = h ++ ext := by
  unfold evFunc at hs
  split at hs
  · simp only at hs
    split at hs
    · simp at hs
    · rename_i ex en h1 hno e1
      obtain ⟨x, rfl⟩ := calm_code hq hc e1
      simp only [Option.bind_eq_some_iff] at hs
      obtain ⟨rs, _, hs⟩ := hs
      split at hs
      · rename_i hp
        simp only [hp, if_true, Option.map_eq_some_iff, Prod.mk.injEq] at hs
        obtain ⟨_, _, _, rfl⟩ := hs
        exact ⟨[], by simp⟩
      · simp only [Option.some.injEq, Prod.mk.injEq] at hs
        exact ⟨x, hs.2.symm⟩
    · simp at hs
  · simp at hs
end

/-! ### Functions that look at no memory -/

def ACode.still (quiet : FuncId → Nat) : ACode → Bool
  | .skip | .ret | .exit _ | .fail => true
  | .seq a b | .cond _ a b => a.still quiet && b.still quiet
  | .block _ c | .loop c => c.still quiet
  | .region ops => ops.all fun o => o.op.inertQ quiet && o.off.isEmpty

def ARes.still : ARes → Bool
  | .tmp _ => true
  | _ => false

/-- A function that looks at no memory. -/
def AFunc.still (quiet : FuncId → Nat) (A : AFunc) : Bool := !A.pure && A.results.all ARes.still && A.body.still quiet

section
variable {call : CallF} {base n : Nat} {quiet : FuncId → Nat}

theorem still_val (hq : QuietOk quiet call) {o : AOper} {en : Env} {h h' : Heap} {v : V} (hc : (o.op.inertQ quiet && o.off.isEmpty) = true) (hs : evVal call base o en h = some (v, h')) :
    h' = h ∧ ∀ b2 h2, evVal call b2 o en h2 = some (v, h2) := by
  simp only [Bool.and_eq_true] at hc
  obtain ⟨hi, hoff⟩ := hc
  refine ⟨(evVal_inertQ hq hi hs).1, fun b2 h2 => ?_⟩
  have key : evOper call base en h o = some (v, h') → evOper call b2 en h2 o = some (v, h2) := by
    intro e
    obtain ⟨ho, e⟩ := evOper_inv e
    refine evOper_of (by simp [offOk, List.isEmpty_iff.1 hoff]) ?_
    by_cases hin : o.op.inert = true
    · rw [evOp_noCall (inert_noCall hin)] at e ⊢
      exact (inert_step hin e).2 b2 h2
    · unfold AOp.inertQ at hi
      split at hi
      · rename_i k args eop
        rw [eop] at e ⊢
        simp only [evOp, Opd.get, target, List.nil_append, List.append_nil] at e ⊢
        exact (hq.2 k (by simpa using hi) _ _ _ _ _ e).2 b2 h2
      · exact absurd hi hin
  unfold evVal at hs ⊢
  split at hs
  · exact key hs
  · rename_i g want hg
    cases hen : gOk (en g) want with
    | none => rw [hen] at hs; simp at hs
    | some t =>
      rw [hen] at hs
      cases t with
      | true => exact key hs
      | false =>
        simp only [Option.some.injEq, Prod.mk.injEq] at hs ⊢
        exact ⟨hs.1, trivial⟩

theorem still_ops (hq : QuietOk quiet call) : ∀ {ops : List AOper} {en en' : Env} {h h' : Heap}, (ops.all fun o => o.op.inertQ quiet && o.off.isEmpty) = true → evOps call base ops en h = some (en', h') →
    h' = h ∧ ∀ b2 h2, evOps call b2 ops en h2 = some (en', h2)
  | [], en, en', h, h', _, hs => by
    simp only [evOps, Option.some.injEq, Prod.mk.injEq] at hs ⊢
    exact ⟨hs.2.symm, fun _ _ => ⟨hs.1, trivial⟩⟩
  | o :: r, en, en', h, h', hc, hs => by
    simp only [List.all_cons, Bool.and_eq_true] at hc
    rw [evOps_cons, Option.bind_eq_some_iff] at hs
    obtain ⟨⟨v, h1⟩, e1, e2⟩ := hs
    obtain ⟨rfl, q1⟩ := still_val hq (by simpa using hc.1) e1
    obtain ⟨rfl, q2⟩ := still_ops hq (by simpa using hc.2) e2
    refine ⟨rfl, fun b2 h2 => ?_⟩
    rw [evOps_cons, q1 b2 h2]
    exact q2 b2 h2

theorem still_iter {f g : Env → Heap → Option (Ex × Env × Heap)} (hf : ∀ en h ex en' h', f en h = some (ex, en', h') → h' = h ∧ ∀ h2, g en h2 = some (ex, en', h2)) :
    ∀ (k : Nat) {en en' : Env} {h h' : Heap} {ex : Ex}, iter f k en h = some (ex, en', h') → h' = h ∧ ∀ h2, iter g k en h2 = some (ex, en', h2)
  | 0, _, _, _, _, _, hs => by simp [iter] at hs
  | k + 1, en, en', h, h', ex, hs => by
    unfold iter at hs
    split at hs
    · rename_i en1 h1 e1
      obtain ⟨rfl, q1⟩ := hf _ _ _ _ _ e1
      obtain ⟨rfl, q2⟩ := still_iter hf k hs
      refine ⟨rfl, fun h2 => ?_⟩
      unfold iter
      rw [q1 h2]
      exact q2 h2
    · rename_i hno
      obtain ⟨rfl, q1⟩ := hf _ _ _ _ _ hs
      refine ⟨rfl, fun h2 => ?_⟩
      unfold iter
      rw [q1 h2]
      cases ex with
      | normal => exact absurd hs (hno _ _)
      | exit i => rfl
      | ret => rfl

theorem still_code (hq : QuietOk quiet call) : ∀ {c : ACode} {en en' : Env} {h h' : Heap} {ex : Ex}, c.still quiet = true → evC call base n c en h = some (ex, en', h') →
    h' = h ∧ ∀ b2 h2, evC call b2 n c en h2 = some (ex, en', h2)
  | .skip, _, _, _, _, _, _, hs => by simp only [evC, Option.some.injEq, Prod.mk.injEq] at hs ⊢; exact ⟨hs.2.2.symm, fun _ _ => ⟨hs.1, hs.2.1, trivial⟩⟩
  | .ret, _, _, _, _, _, _, hs => by simp only [evC, Option.some.injEq, Prod.mk.injEq] at hs ⊢; exact ⟨hs.2.2.symm, fun _ _ => ⟨hs.1, hs.2.1, trivial⟩⟩
  | .exit i, _, _, _, _, _, _, hs => by simp only [evC, Option.some.injEq, Prod.mk.injEq] at hs ⊢; exact ⟨hs.2.2.symm, fun _ _ => ⟨hs.1, hs.2.1, trivial⟩⟩
  | .fail, _, _, _, _, _, _, hs => by simp [evC] at hs
  | .seq a b, en, en', h, h', ex, hc, hs => by
    simp only [ACode.still, Bool.and_eq_true] at hc
    unfold evC at hs
    split at hs
    · rename_i en1 h1 e1
      obtain ⟨rfl, q1⟩ := still_code hq hc.1 e1
      obtain ⟨rfl, q2⟩ := still_code hq hc.2 hs
      refine ⟨rfl, fun b2 h2 => ?_⟩
      unfold evC
      rw [q1 b2 h2]
      exact q2 b2 h2
    · rename_i hno
      obtain ⟨rfl, q1⟩ := still_code hq hc.1 hs
      refine ⟨rfl, fun b2 h2 => ?_⟩
      unfold evC
      rw [q1 b2 h2]
      cases ex with
      | normal => exact absurd hs (hno _ _)
      | exit i => rfl
      | ret => rfl
  | .cond c a b, en, en', h, h', ex, hc, hs => by
    simp only [ACode.still, Bool.and_eq_true] at hc
    unfold evC at hs
    split at hs
    · rename_i t et
      cases t with
      | true =>
        obtain ⟨rfl, q1⟩ := still_code hq hc.1 hs
        exact ⟨rfl, fun b2 h2 => by unfold evC; rw [et]; exact q1 b2 h2⟩
      | false =>
        obtain ⟨rfl, q1⟩ := still_code hq hc.2 hs
        exact ⟨rfl, fun b2 h2 => by unfold evC; rw [et]; exact q1 b2 h2⟩
    · simp at hs
  | .region ops, en, en', h, h', ex, hc, hs => by
    simp only [ACode.still] at hc
    unfold evC at hs
    split at hs
    · rename_i en1 h1 e1
      obtain ⟨rfl, q1⟩ := still_ops hq hc e1
      simp only [Option.some.injEq, Prod.mk.injEq] at hs
      obtain ⟨rfl, rfl, rfl⟩ := hs
      exact ⟨rfl, fun b2 h2 => by unfold evC; rw [q1 b2 h2]⟩
    · simp at hs
  | .block id c, en, en', h, h', ex, hc, hs => by
    simp only [ACode.still] at hc
    unfold evC at hs
    split at hs
    · rename_i i en1 h1 e1
      obtain ⟨rfl, q1⟩ := still_code hq hc e1
      split at hs
      · rename_i hi
        simp only [Option.some.injEq, Prod.mk.injEq] at hs
        obtain ⟨rfl, rfl, rfl⟩ := hs
        exact ⟨rfl, fun b2 h2 => by unfold evC; rw [q1 b2 h2]; simp only [if_pos hi]⟩
      · rename_i hi
        simp only [Option.some.injEq, Prod.mk.injEq] at hs
        obtain ⟨rfl, rfl, rfl⟩ := hs
        exact ⟨rfl, fun b2 h2 => by unfold evC; rw [q1 b2 h2]; simp only [if_neg hi]⟩
    · rename_i hno
      obtain ⟨rfl, q1⟩ := still_code hq hc hs
      refine ⟨rfl, fun b2 h2 => ?_⟩
      unfold evC
      rw [q1 b2 h2]
      cases ex with
      | exit i => exact absurd hs (hno _ _ _)
      | normal => rfl
      | ret => rfl
  | .loop c, en, en', h, h', ex, hc, hs => by
    simp only [ACode.still] at hc
    unfold evC at hs
    refine ⟨(still_iter (g := fun en h => evC call base n c en h) (fun en h ex en' h' e => ⟨(still_code hq hc e).1, (still_code hq hc e).2 base⟩) n hs).1, fun b2 h2 => ?_⟩
    unfold evC
    exact (still_iter (g := fun en h => evC call b2 n c en h) (fun en h ex en' h' e => ⟨(still_code hq hc e).1, (still_code hq hc e).2 b2⟩) n hs).2 h2

theorem still_res {en : Env} {h : Heap} : ∀ {rs : List ARes} {vs : List V}, rs.all ARes.still = true → evRess en h rs = some vs → ∀ h2, evRess en h2 rs = some vs
  | [], vs, _, hs, h2 => hs
  | .tmp t :: rs, vs, hc, hs, h2 => by
    simp only [List.all_cons, Bool.and_eq_true] at hc
    simp only [evRess, evRes1, Option.bind_some, Option.map_eq_some_iff] at hs ⊢
    obtain ⟨us, hu, rfl⟩ := hs
    exact ⟨us, still_res hc.2 hu h2, rfl⟩
  | .cell a b :: rs, vs, hc, hs, h2 => by simp [ARes.still] at hc

theorem still_func (hq : QuietOk quiet call) {A : AFunc} {args : List V} {h h' : Heap} {v : V} (hc : A.still quiet = true) (hs : evFunc call n base A args h = some (v, h')) :
    h' = h ∧ ∀ b2 h2, evFunc call n b2 A args h2 = some (v, h2) := by
  simp only [AFunc.still, Bool.and_eq_true, Bool.not_eq_true'] at hc
  obtain ⟨⟨hp, hr⟩, hb⟩ := hc
  unfold evFunc at hs
  split at hs
  · rename_i hl
    simp only [hp, Bool.false_eq_true, if_false] at hs
    split at hs
    · simp at hs
    · rename_i ex en h1 hno e1
      obtain ⟨rfl, q1⟩ := still_code hq hb e1
      simp only [Option.bind_eq_some_iff, Option.some.injEq, Prod.mk.injEq] at hs
      obtain ⟨rs, e2, e3, rfl⟩ := hs
      refine ⟨rfl, fun b2 h2 => ?_⟩
      unfold evFunc
      rw [if_pos hl]
      simp only [hp, Bool.false_eq_true, if_false]
      rw [q1 b2 h2]
      cases ex with
      | exit i => exact (hno i rfl).elim
      | normal => simp only [still_res hr e2 h2, Option.bind_some, e3]
      | ret => simp only [still_res hr e2 h2, Option.bind_some, e3]
    · simp at hs
  · simp at hs
end

theorem quiet_ok {X : FuncId → Option (Nat → List V → Heap → Option (V × Heap))} {F : FuncId → Option AFunc} {quiet : FuncId → Nat}
    (hX : ∀ f g, quiet f ≠ 0 → X f = some g → (∀ base args h v h', g base args h = some (v, h') → ∃ ext, h' = h ++ ext) ∧ quiet f ≠ 2)
    (hF : ∀ f A, quiet f ≠ 0 → X f = none → F f = some A → A.body.calm quiet = true ∧ (quiet f = 2 → A.still quiet = true)) : ∀ n, QuietOk quiet (evCall X F n)
  | 0 => ⟨fun _ _ _ _ _ _ _ hs => by simp [evCall] at hs, fun _ _ _ _ _ _ _ hs => by simp [evCall] at hs⟩
  | n + 1 => by
    have ih := quiet_ok hX hF n
    refine ⟨fun k hk base args h v h' hs => ?_, fun k hk base args h v h' hs => ?_⟩
    · unfold evCall at hs
      split at hs
      · rename_i g hg
        exact (hX k g hk hg).1 _ _ _ _ _ hs
      · rename_i hg
        split at hs
        · rename_i A hA
          exact calm_func ih (hF k A hk hg hA).1 hs
        · simp at hs
    · have hk0 : quiet k ≠ 0 := by rw [hk]; simp
      unfold evCall at hs
      split at hs
      · rename_i g hg
        exact absurd hk (hX k g hk0 hg).2
      · rename_i hg
        split at hs
        · rename_i A hA
          obtain ⟨q1, q2⟩ := still_func ih ((hF k A hk0 hg hA).2 hk) hs
          refine ⟨q1, fun b2 h2 => ?_⟩
          unfold evCall
          rw [hg]
          simp only [hA]
          exact q2 b2 h2
        · simp at hs

section
variable {P : Program} {gl : Nat → Option (List V)}

def xSame : Nat → List V → Heap → Option (V × Heap) := fun _ args h => match args with
  | [x] => some (x, h)
  | _ => none

theorem xSame_ok {f : FuncId} {fn : Func} (hf : P.funcs[f]? = some fn) (hname : (fn.name == "runtime.NumGoroutine") = false) (hb : fn.body.isNone = true) (hn : Extern.findNext fn = none) (he : Extern.find fn = some Extern.AbiNoEscape.same) : ExtOk P gl f xSame := by
  have inv : ∀ base args h r h', xSame base args h = some (r, h') → args = [r] ∧ h' = h := by
    intro base args h r h' hs
    unfold xSame at hs
    split at hs
    · simp only [Option.some.injEq, Prod.mk.injEq] at hs
      obtain ⟨rfl, rfl⟩ := hs
      exact ⟨rfl, rfl⟩
    · simp at hs
  refine ⟨fun base args h r h' hs hl => ?_, fun base args h r h' hs hl G w vals hgl R hv => ?_⟩
  · rw [(inv _ _ _ _ _ hs).2]; exact Grow.refl _ _
  · obtain ⟨rfl, rfl⟩ := inv _ _ _ _ _ hs
    simp only [RepL] at hv
    obtain ⟨rv, rest, hvals, h1, rfl⟩ := hv
    have hvals : vals = #[rv] := by rw [← Array.toArray_toList (xs := vals), hvals]
    subst hvals
    unfold CallsF
    rw [run_callFunc_extern hf hname hb hn he]
    have : (Extern.AbiNoEscape.same #[rv]).run P w = .ok rv w := rfl
    rw [this]
    exact ⟨G, Reach.refl R, h1⟩

/-- internal/bytealg.MakeNoZero: elements of the type 'e', of which nothing is known. -/
def xMake (e : TypeId) : Nat → List V → Heap → Option (V × Heap) := fun _ args h => match args with
  | [.sc (.int .i64 n)] => if 0 ≤ n ∧ n.toNat ≤ lim then some (.hsl h.length 0 0 n.toNat, h ++ [.row e 1 0 []]) else none
  | _ => none

theorem xMake_ok {f : FuncId} {fn : Func} {ps : Array TypeId} {t e : TypeId} (hf : P.funcs[f]? = some fn) (hname : (fn.name == "runtime.NumGoroutine") = false) (hb : fn.body.isNone = true) (hn : Extern.findNext fn = none)
    (he : Extern.find fn = some (Extern.BytealgMakeNoZero.makeNoZero ps #[t])) (ht : P.underlying t = some (.slice e)) : ExtOk P gl f (xMake e) := by
  have inv : ∀ base args h r h', xMake e base args h = some (r, h') → ∃ n : Int, args = [.sc (.int .i64 n)] ∧ 0 ≤ n ∧ n.toNat ≤ lim ∧ r = .hsl h.length 0 0 n.toNat ∧ h' = h ++ [.row e 1 0 []] := by
    intro base args h r h' hs
    unfold xMake at hs
    split at hs
    · rename_i n
      split at hs
      · rename_i hc
        simp only [Option.some.injEq, Prod.mk.injEq] at hs
        obtain ⟨rfl, rfl⟩ := hs
        exact ⟨n, rfl, hc.1, hc.2, rfl, rfl⟩
      · simp at hs
    · simp at hs
  refine ⟨fun base args h r h' hs hl => ?_, fun base args h r h' hs hl G w vals hgl R hv => ?_⟩
  · obtain ⟨n, _, _, _, _, rfl⟩ := inv _ _ _ _ _ hs
    exact Grow.app _ _ _
  · obtain ⟨n, rfl, h0, hlim, rfl, rfl⟩ := inv _ _ _ _ _ hs
    simp only [RepL] at hv
    obtain ⟨rv, rest, hvals, h1, rfl⟩ := hv
    have h1 := h1.sc_inv
    subst h1
    have hvals : vals = #[.int .i64 n] := by rw [← Array.toArray_toList (xs := vals), hvals]
    subst hvals
    obtain ⟨cs, hrun, hcs, _⟩ := Lib.run_makeNoZero (P := P) w ps t e ht n.toNat (by unfold lim at hlim; omega)
    rw [Int.toNat_of_nonneg h0] at hrun
    unfold CallsF
    rw [run_callFunc_extern hf hname hb hn he, hrun]
    refine ⟨G.newRow ⟨0, 1, w.heap.size, cs.size⟩, ⟨Ext.newRow G _, R.drew.drew.newRow e (by omega) (by simp) (by simp) (fun i c hi => by simp at hi), ?_⟩, ?_⟩
    · exact ((Below.refl _ _).drew.drew).alloc R.hb0 _
    · simp only [RepV]
      refine ⟨by simp [Tie.newRow, R.n], _, _, rfl, fun L hL => ?_⟩
      simp only [Tie.newRow, R.n, if_true, Option.some.injEq] at hL
      subst hL
      exact ⟨Nat.le_refl _, fun _ => ⟨hcs, by simp, fun _ => by simp⟩⟩

theorem xSame_grows : ∀ (base : Nat) (args : List V) (h : Heap) (v : V) (h' : Heap), xSame base args h = some (v, h') → ∃ ext, h' = h ++ ext := by
  intro base args h v h' hs
  unfold xSame at hs
  split at hs
  · simp only [Option.some.injEq, Prod.mk.injEq] at hs
    exact ⟨[], by simp [hs.2]⟩
  · simp at hs

theorem xMake_grows {e : TypeId} : ∀ (base : Nat) (args : List V) (h : Heap) (v : V) (h' : Heap), xMake e base args h = some (v, h') → ∃ ext, h' = h ++ ext := by
  intro base args h v h' hs
  unfold xMake at hs
  split at hs
  · split at hs
    · simp only [Option.some.injEq, Prod.mk.injEq] at hs
      exact ⟨_, hs.2.symm⟩
    · simp at hs
  · simp at hs
end
end Go.Am
