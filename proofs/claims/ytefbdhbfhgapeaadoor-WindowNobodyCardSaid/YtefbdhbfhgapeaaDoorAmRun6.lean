/- Am: regions and control. -/
import Derived.Test.YtefbdhbfhgapeaaDoorAmRun5
import Derived.LoopN
import Derived.Orders
namespace Go.Am
open Go.RowKit (Below)
section
variable {P : Program} {gl : Nat → Option (List V)} {call : CallF} {base n nt : Nat}

theorem evOp_grow (hc : CallOk P gl call) {en : Env} {h h' : Heap} {op : AOp} {v : V} (hb : base ≤ h.length) (hs : evOp call base en h op = some (v, h')) : Grow base h h' := by
  unfold evOp at hs
  split at hs
  · split at hs
    · exact hc.grow _ _ _ _ _ _ hs hb
    · simp at hs
  · exact step_grow hs

theorem evOper_grow (hc : CallOk P gl call) {en : Env} {h h' : Heap} {o : AOper} {v : V} (hb : base ≤ h.length) (hs : evOper call base en h o = some (v, h')) : Grow base h h' := evOp_grow hc hb (evOper_inv hs).2

theorem evOps_grow (hc : CallOk P gl call) : ∀ {ops : List AOper} {en en' : Env} {h h' : Heap}, base ≤ h.length → evOps call base ops en h = some (en', h') → Grow base h h'
  | [], en, en', h, h', _, hs => by
    simp only [evOps, Option.some.injEq, Prod.mk.injEq] at hs
    rw [← hs.2]
    exact Grow.refl _ _
  | o :: ops, en, en', h, h', hb, hs => by
    have key : ∀ {v h1}, evOper call base en h o = some (v, h1) → evOps call base ops (en.put o.dst v) h1 = some (en', h') → Grow base h h' := by
      intro v h1 e1 e2
      have g1 := evOper_grow hc hb e1
      exact g1.trans (evOps_grow hc (Nat.le_trans hb g1.1) e2)
    unfold evOps at hs
    split at hs
    · split at hs
      · rename_i v h1 e1
        exact key e1 hs
      · simp at hs
    · split at hs
      · split at hs
        · rename_i v h1 e1
          exact key e1 hs
        · simp at hs
      · exact evOps_grow hc hb hs
      · simp at hs

theorem iter_grow {f : Env → Heap → Option (Ex × Env × Heap)} (hf : ∀ en h ex en' h', base ≤ h.length → f en h = some (ex, en', h') → Grow base h h') :
    ∀ (k : Nat) {en en' : Env} {h h' : Heap} {ex : Ex}, base ≤ h.length → iter f k en h = some (ex, en', h') → Grow base h h'
  | 0, _, _, _, _, _, _, hs => by simp [iter] at hs
  | k + 1, en, en', h, h', ex, hb, hs => by
    unfold iter at hs
    split at hs
    · rename_i en1 h1 e1
      have g1 := hf _ _ _ _ _ hb e1
      exact g1.trans (iter_grow hf k (Nat.le_trans hb g1.1) hs)
    · exact hf _ _ _ _ _ hb hs

theorem evC_grow (hc : CallOk P gl call) : ∀ {c : ACode} {en en' : Env} {h h' : Heap} {ex : Ex}, base ≤ h.length → evC call base n c en h = some (ex, en', h') → Grow base h h'
  | .skip, _, _, _, _, _, _, hs => by simp only [evC, Option.some.injEq, Prod.mk.injEq] at hs; rw [← hs.2.2]; exact Grow.refl _ _
  | .ret, _, _, _, _, _, _, hs => by simp only [evC, Option.some.injEq, Prod.mk.injEq] at hs; rw [← hs.2.2]; exact Grow.refl _ _
  | .exit id, _, _, _, _, _, _, hs => by simp only [evC, Option.some.injEq, Prod.mk.injEq] at hs; rw [← hs.2.2]; exact Grow.refl _ _
  | .fail, _, _, _, _, _, _, hs => by simp [evC] at hs
  | .seq a b, en, en', h, h', ex, hb, hs => by
    simp only [evC] at hs
    split at hs
    · rename_i en1 h1 e1
      have g1 := evC_grow hc hb e1
      exact g1.trans (evC_grow hc (Nat.le_trans hb g1.1) hs)
    · exact evC_grow hc hb hs
  | .cond c a b, en, en', h, h', ex, hb, hs => by
    simp only [evC] at hs
    split at hs
    · split at hs
      · exact evC_grow hc hb hs
      · exact evC_grow hc hb hs
    · simp at hs
  | .region ops, en, en', h, h', ex, hb, hs => by
    simp only [evC] at hs
    split at hs
    · rename_i en1 h1 e1
      simp only [Option.some.injEq, Prod.mk.injEq] at hs
      rw [← hs.2.2]
      exact evOps_grow hc hb e1
    · simp at hs
  | .block id c, en, en', h, h', ex, hb, hs => by
    simp only [evC] at hs
    split at hs
    · rename_i i en1 h1 e1
      have g1 := evC_grow hc hb e1
      split at hs
      · simp only [Option.some.injEq, Prod.mk.injEq] at hs
        rw [← hs.2.2]
        exact g1
      · simp only [Option.some.injEq, Prod.mk.injEq] at hs
        rw [← hs.2.2]
        exact g1
    · exact evC_grow hc hb hs
  | .loop c, en, en', h, h', ex, hb, hs => by
    simp only [evC] at hs
    exact iter_grow (fun _ _ _ _ _ hb e => evC_grow hc hb e) n hb hs

/-! ### The machine -/

def AOp.isCall : AOp → Bool
  | .call _ _ => true
  | _ => false

def NoC (x : Option AOp) : Prop := ∀ y, x = some y → y.isCall = false

theorem NoC.none : NoC none := fun _ e => by simp at e
theorem NoC.some {y : AOp} (h : y.isCall = false) : NoC (some y) := fun _ e => by injection e with e; rw [← e]; exact h
theorem NoC.map {α : Type} {x : Option α} {f : α → AOp} (h : ∀ a, (f a).isCall = false) : NoC (x.map f) := fun _ e => by
  simp only [Option.map_eq_some_iff] at e
  obtain ⟨a, _, rfl⟩ := e
  exact h a
theorem NoC.bind {α : Type} {x : Option α} {f : α → Option AOp} (h : ∀ a, NoC (f a)) : NoC (x.bind f) := fun y e => by
  simp only [Option.bind_eq_some_iff] at e
  obtain ⟨a, _, e⟩ := e
  exact h a y e
theorem NoC.ite {c : Prop} [Decidable c] {x y : Option AOp} (hx : NoC x) (hy : NoC y) : NoC (if c then x else y) := by
  split
  · exact hx
  · exact hy

theorem compOp_call {op : Op} {f : Opd} {args : List Opd} (h : compOp P gl op = some (.call f args)) :
    ∃ fo as ts, op = .call { callee := .value fo, args := as, argTypes := ts } ∧ opd gl fo = some f ∧ opds gl as.toList = some args := by
  have hno : ∀ x : Option AOp, NoC x → x ≠ some (.call f args) := fun x hx e => by have := hx _ e; simp [AOp.isCall] at this
  cases op
  case call c =>
    obtain ⟨callee, as, ts⟩ := c
    simp only [compOp, compCall] at h
    split at h
    · simp only [Option.bind_eq_some_iff, Option.map_eq_some_iff] at h
      obtain ⟨f', hf, xs, hx, he⟩ := h
      injection he with e1 e2
      subst e1; subst e2
      exact ⟨_, _, _, rfl, hf, hx⟩
    · exfalso
      refine hno _ ?_ h
      unfold compBuiltin
      repeat' first
        | exact NoC.none
        | exact NoC.some rfl
        | exact NoC.map fun _ => rfl
        | refine NoC.bind fun _ => ?_
        | refine NoC.ite ?_ ?_
        | split
    · simp at h
  all_goals
    exfalso
    refine hno _ ?_ h
    simp only [compOp, compBin, compConv]
    repeat' first
      | exact NoC.none
      | exact NoC.some rfl
      | exact NoC.map fun _ => rfl
      | refine NoC.bind fun _ => ?_
      | refine NoC.ite ?_ ?_
      | split

/-- One operation, calls too. -/
theorem oper_wp (hc : CallOk P gl call) {G : Tie} {en : Env} {h h' : Heap} {a : Act} {w : World} {o : Oper} {ao : AOper} {all : List Oper} {v : V} {Q : Exit → Act → World → Prop} {next : Act → World → Prop}
    (hgl : GlobOk G gl) (he : RepEnv G en a.tmps) (R : Rel G h w) (hb : base ≤ h.length) (hco : compOper P gl nt all o = some ao) (hs : evOper call base en h ao = some (v, h'))
    (hn : ∀ r w' G', Reach G w h' w' G' → RepV G' v r → next (a.put o.dst r) w') : o.wp P a w next Q := by
  unfold compOper at hco
  have hop : ao.op = compOpT P gl o.op := by
    simp only at hco
    split at hco
    · split at hco
      · injection hco with hco; rw [← hco]
      · simp only [Option.map_eq_some_iff] at hco
        obtain ⟨d, _, rfl⟩ := hco
        rfl
    · simp at hco
  unfold Oper.wp
  have quiet : step base en h ao.op = some (v, h') → o.upon P a next Q ((execOp a.eval o).run P w) := by
    intro hst
    rw [hop] at hst
    unfold compOpT at hst
    cases hcp : compOp P gl o.op with
    | none => rw [hcp] at hst; simp [step] at hst
    | some op =>
      rw [hcp] at hst
      obtain ⟨r, w', G', hrun, x, R', hv, hbl⟩ := step_run hgl he R hcp hst
      rcases hrun with hrun | ⟨hrun, rfl⟩
      · rw [hrun]
        exact hn r w' G' ⟨x, R', hbl⟩ hv
      · rw [hrun]
        exact hn undef w' G' ⟨x, R', hbl⟩ hv
  have hs := (evOper_inv hs).2
  generalize hgo : ao.op = gop at hs
  unfold evOp at hs
  split at hs
  · rename_i f args
    have eop := hgo
    rw [hop] at eop
    split at hs
    · rename_i k vs et
      have hcp : compOp P gl o.op = some (.call f args) := by
        unfold compOpT at eop
        cases hcp : compOp P gl o.op with
        | none => rw [hcp] at eop; simp at eop
        | some op => rw [hcp] at eop; simp only [Option.getD_some] at eop; rw [eop]
      obtain ⟨fo, as, ts, ho, hf, hargs⟩ := compOp_call hcp
      have hfv := opd_rep hgl he hf
      have hav := opds_rep hgl he hargs
      unfold target at et
      split at et
      · rename_i g fa fc ef
        injection et with et
        simp only [Prod.mk.injEq] at et
        obtain ⟨rfl, rfl⟩ := et
        rw [ef] at hfv
        simp only [RepV] at hfv
        obtain ⟨ra, rc, hr, h1, h2⟩ := hfv
        have hvals : RepL G (fa ++ getsO en args ++ fc) ((ra ++ as.map a.eval) ++ rc).toList := by
          simp only [Array.toList_append]
          refine (h1.append ?_).append h2
          simpa using hav
        have hcall := hc.runs _ _ _ _ _ _ hs hb G w _ hgl R hvals
        have hex : execOp a.eval o = callFunc g ((ra ++ as.map a.eval) ++ rc) := by
          simp only [execOp, ho, resolve, hr, Deferred.ofValue]
          rfl
        rw [hex]
        unfold CallsF at hcall
        split at hcall
        · rename_i v' w' e1
          rw [e1]
          obtain ⟨G', hreach, hv⟩ := hcall
          exact hn _ _ _ hreach hv
        · rename_i g' as' w' e1
          rw [e1]
          rw [Oper.upon_enter]
          refine hcall.mono ?_
          intro e w'' hq
          cases e with
          | returned rv =>
            obtain ⟨G', hreach, hv⟩ := hq
            exact hn _ _ _ hreach hv
          | panicked chain => exact hq.elim
          | outgrown => exact hq.elim
        · rename_i row as' w' e1
          rw [e1]
          rw [Oper.upon_row]
          refine hcall.mono ?_
          intro rv w'' hq
          obtain ⟨G', hreach, hv⟩ := hq
          exact hn _ _ _ hreach hv
        · exact hcall.elim
      · simp at et
    · simp at hs
  · exact quiet (by rw [hgo]; exact hs)

theorem compOper_inv {all : List Oper} {o : Oper} {ao : AOper} (h : compOper P gl nt all o = some ao) :
    ao.off = [] ∧ ao.dst = o.dst ∧ (∀ d, o.dst = some d → d < nt) ∧ ((o.guard = none ∧ ao.guard = none) ∨ ∃ j want d, o.guard = some (j, want) ∧ ao.guard = some (d, want) ∧ (all[j]?).bind (·.dst) = some d) := by
  unfold compOper at h
  simp only at h
  split at h
  · rename_i hd
    have hd' : ∀ d, o.dst = some d → d < nt := by
      intro d hdd
      rw [hdd] at hd
      simpa using hd
    split at h
    · rename_i hg
      injection h with h
      subst h
      exact ⟨rfl, rfl, hd', .inl ⟨hg, rfl⟩⟩
    · rename_i j want hg
      simp only [Option.map_eq_some_iff] at h
      obtain ⟨d, hdd, rfl⟩ := h
      exact ⟨rfl, rfl, hd', .inr ⟨j, want, d, hg, rfl, hdd⟩⟩
  · simp at h

theorem put_env {G : Tie} {en : Env} {a : Act} (he : RepEnv G en a.tmps) {dst : Option Nat} (hd : ∀ d, dst = some d → d < nt) (hsz : nt ≤ a.tmps.size) {v : V} {r : Value} (hv : RepV G v r) :
    RepEnv G (en.put dst v) (a.put dst r).tmps ∧ (a.put dst r).tmps.size = a.tmps.size ∧ (a.put dst r).defers = a.defers := by
  cases dst with
  | none => exact ⟨he, rfl, rfl⟩
  | some d => exact ⟨he.put (Nat.lt_of_lt_of_le (hd d rfl) hsz) hv, by simp [Act.put], rfl⟩

/-- An abstract operation serves one of the model's: it stands for what this comes to. -/
def Serves (P : Program) (gl : Nat → Option (List V)) (nt : Nat) (all : List Oper) (o : Oper) (ao : AOper) : Prop :=
  ∃ b, compOper P gl nt all o = some b ∧ Stands ao b

/-- One operation of a region. -/
theorem one_wp (hc : CallOk P gl call) {ops : Array Oper} {Q : Exit → Act → World → Prop} {K : Act → World → Prop} {i : Nat} {o : Oper} {ao : AOper} {G : Tie} {en : Env} {h h' : Heap} {a : Act} {w : World} {v : V}
    (ho : ops[i]? = some o) (hser : Serves P gl nt ops.toList o ao) (hgl : GlobOk G gl) (he : RepEnv G en a.tmps) (R : Rel G h w) (hb : base ≤ h.length) (hsz : nt ≤ a.tmps.size) (hs : evVal call base ao en h = some (v, h'))
    (hK : ∀ a' w' G', Reach G w h' w' G' → base ≤ h'.length → RepEnv G' (en.put ao.dst v) a'.tmps → a'.tmps.size = a.tmps.size → a'.defers = a.defers → K a' w') : wpOp P ops Q i K a w := by
  obtain ⟨b, hco, hab⟩ := hser
  have hs' : evVal call base b en h = some (v, h') := hab.val hs
  have hdst' : ao.dst = b.dst := hab.1
  rw [hdst'] at hK
  clear hs hab hdst'
  obtain ⟨_, hdst, hdlt, hguard⟩ := compOper_inv hco
  rw [hdst] at hK
  unfold wpOp
  simp only [ho]
  have key : evOper call base en h b = some (v, h') → o.wp P a w K Q := by
    intro e1
    refine oper_wp hc hgl he R hb hco e1 fun r w' G' hreach hv => ?_
    obtain ⟨p1, p2, p3⟩ := put_env (he.ext hreach.ext) hdlt hsz hv
    exact hK _ _ G' hreach (Nat.le_trans hb (evOper_grow hc hb e1).1) p1 p2 p3
  unfold evVal at hs'
  split at hs'
  · rename_i hg
    have hw : Region.wanted o (yielded ops a.tmps) = true := by
      rcases hguard with ⟨h1, _⟩ | ⟨j, want, d, _, h2, _⟩
      · unfold Region.wanted; rw [h1]
      · rw [h2] at hg; simp at hg
    rw [if_pos hw]
    exact .inl (key hs')
  · rename_i g want hg
    rcases hguard with ⟨_, h2⟩ | ⟨j, want', d, h1, h2, hd⟩
    · rw [h2] at hg; simp at hg
    · rw [h2] at hg
      injection hg with hg
      simp only [Prod.mk.injEq] at hg
      obtain ⟨rfl, rfl⟩ := hg
      cases hgo : gOk (en d) want' with
      | none => rw [hgo] at hs'; simp at hs'
      | some t =>
        rw [hgo] at hs'
        have hw : Region.wanted o (yielded ops a.tmps) = t := by
          have hd' : (ops[j]?).bind (·.dst) = some d := by rw [← Array.getElem?_toList]; exact hd
          have hrep := he d
          unfold gOk at hgo
          split at hgo
          · rename_i u hu
            rw [hu] at hrep
            have hrep := hrep.sc_inv
            have hy : yielded ops a.tmps j = some u := by
              unfold yielded
              rw [hd']
              simp only [Option.bind_some]
              have hlt : d < a.tmps.size := by
                rcases Nat.lt_or_ge d a.tmps.size with hl | hl
                · exact hl
                · simp [Array.getD, show ¬ d < a.tmps.size by omega, undef] at hrep
              have : a.tmps[d]? = some (.bool u) := by
                rw [Array.getElem?_eq_getElem hlt]
                simpa [Array.getD, hlt] using hrep
              rw [this]
            unfold Region.wanted
            rw [h1]
            simp only [hy]
            injection hgo with hgo
          · rename_i hu
            rw [hu] at hrep
            simp only [RepV, RepL] at hrep
            obtain ⟨rs, hr, hrs⟩ := hrep
            have hy : yielded ops a.tmps j = none := by
              unfold yielded
              rw [hd']
              simp only [Option.bind_some]
              cases ht : a.tmps[d]? with
              | none => rfl
              | some x =>
                have : a.tmps.getD d undef = x := by simp [Array.getD_eq_getD_getElem?, ht]
                rw [this] at hr
                rw [hr]
            unfold Region.wanted
            rw [h1]
            simp only [hy]
            injection hgo with hgo
          · simp at hgo
        rw [hw]
        cases t with
        | true =>
          rw [if_pos rfl]
          exact .inl (key hs')
        | false =>
          rw [if_neg (by simp)]
          simp only [Option.some.injEq, Prod.mk.injEq] at hs'
          obtain ⟨rfl, rfl⟩ := hs'
          obtain ⟨p1, p2, p3⟩ := put_env (a := a) he hdlt hsz (v := .tup []) (r := undef) (by simp only [RepV]; exact ⟨#[], rfl, by simp [RepL]⟩)
          exact hK _ _ G (Reach.refl R) hb p1 p2 p3

theorem ops_wp (hc : CallOk P gl call) {ops : Array Oper} {Q : Exit → Act → World → Prop} : ∀ {l : List Nat} {aops : List AOper} {G : Tie} {en en' : Env} {h h' : Heap} {a : Act} {w : World},
    All2 (fun i ao => ∃ o, ops[i]? = some o ∧ Serves P gl nt ops.toList o ao) l aops →
    GlobOk G gl → RepEnv G en a.tmps → Rel G h w → base ≤ h.length → nt ≤ a.tmps.size → evOps call base aops en h = some (en', h') →
    (∀ a' w' G', Reach G w h' w' G' → RepEnv G' en' a'.tmps → a'.tmps.size = a.tmps.size → a'.defers = a.defers → Q .normal a' w') → wpOps P ops Q l a w
  | [], aops, G, en, en', h, h', a, w, hall, hgl, he, R, hb, hsz, hs, hQ => by
    simp only [All2] at hall
    subst hall
    simp only [evOps, Option.some.injEq, Prod.mk.injEq] at hs
    obtain ⟨rfl, rfl⟩ := hs
    exact hQ a w G (Reach.refl R) he rfl rfl
  | i :: l, aops, G, en, en', h, h', a, w, hall, hgl, he, R, hb, hsz, hs, hQ => by
    simp only [All2] at hall
    obtain ⟨ao, aops, rfl, ⟨o, ho, hser⟩, hall⟩ := hall
    rw [evOps_cons, Option.bind_eq_some_iff] at hs
    obtain ⟨⟨v, h1⟩, e1, e2⟩ := hs
    rw [wpOps_cons]
    refine one_wp hc ho hser hgl he R hb hsz e1 fun a' w' G' hreach hb' he' q1 q2 => ?_
    refine ops_wp hc hall (hgl.ext hreach.ext) he' hreach.rel hb' (by omega) e2 fun a'' w'' G'' hreach' he'' r1 r2 => ?_
    exact hQ a'' w'' G'' (hreach.trans hreach') he'' (r1.trans q1) (r2.trans q2)

/-! ### Where the order is open -/

theorem depB_listed {ops : Array Oper} {listed : Array Bool} (down : ∀ (i : Nat) (o : Oper), ops[i]? = some o → listed.getD i false = true → ∀ e ∈ o.after, Region.binds .any e = true → listed.getD e.on false = true) :
    ∀ (k i x : Nat) (o : Oper), ops[i]? = some o → (∀ e ∈ o.after, Region.binds .any e = true → listed.getD e.on false = true) → depB ops.toList k i x = true → listed.getD x false = true
  | 0, _, _, _, _, _, hd => by simp [depB] at hd
  | k + 1, i, x, o, ho, hl, hd => by
    have ho' : ops.toList[i]? = some o := by rw [Array.getElem?_toList]; exact ho
    simp only [depB, ho', List.any_eq_true, Bool.and_eq_true, Bool.or_eq_true, beq_iff_eq, Array.mem_toList_iff] at hd
    obtain ⟨e, hm, hb, he⟩ := hd
    rcases he with rfl | he
    · exact hl e hm hb
    · have hon := hl e hm hb
      cases hoe : ops[e.on]? with
      | none =>
        have : ops.toList[e.on]? = none := by rw [Array.getElem?_toList]; exact hoe
        cases k with
        | zero => simp [depB] at he
        | succ k => simp [depB, this] at he
      | some oe => exact depB_listed down k e.on x oe hoe (fun e' hm' hb' => down e.on oe hoe hon e' hm' hb') he

theorem getD_true_lt {listed : Array Bool} {i : Nat} (h : listed.getD i true = false) : i < listed.size := by
  rcases Nat.lt_or_ge i listed.size with h' | h'
  · exact h'
  · simp [Array.getElem?_eq_none h'] at h

theorem least_mem : ∀ {M : List Nat}, M ≠ [] → ∃ m ∈ M, ∀ x ∈ M, m ≤ x
  | [], h => absurd rfl h
  | [m], _ => ⟨m, by simp, by simp⟩
  | m :: n :: M, _ => by
    obtain ⟨k, hk, hall⟩ := least_mem (M := n :: M) (by simp)
    by_cases h : m ≤ k
    · exact ⟨m, by simp, fun x hx => by
        rcases List.mem_cons.1 hx with rfl | hx
        · exact Nat.le_refl _
        · exact Nat.le_trans h (hall x hx)⟩
    · exact ⟨k, List.mem_cons_of_mem _ hk, fun x hx => by
        rcases List.mem_cons.1 hx with rfl | hx
        · omega
        · exact hall x hx⟩

/-- Every one ahead of another may be gone past by it, or is waited for. -/
def PairsOk (quiet : FuncId → Nat) (ops : List Oper) (f : Nat → AOper) (M : List Nat) : Prop :=
  M.Pairwise fun x i => depB ops ops.length i x = true ∨ commB quiet (f x) (f i) = true

theorem any_wp {quiet : FuncId → Nat} (hq : QuietOk quiet call) (hc : CallOk P gl call) {ops : Array Oper} {Q : Exit → Act → World → Prop} {f : Nat → AOper}
    (hf : ∀ (i : Nat) (o : Oper), ops[i]? = some o → Serves P gl nt ops.toList o (f i))
    (hback : ∀ (i : Nat) (o : Oper), ops[i]? = some o → ∀ e ∈ o.after, Region.binds .any e = true → e.on < i) :
    ∀ (fuel : Nat) (listed : Array Bool) (M : List Nat) {G : Tie} {en en' : Env} {h h' : Heap} {a : Act} {w : World},
      M.Nodup → PairsOk quiet ops.toList f M → (∀ i, i ∈ M ↔ i < ops.size ∧ listed.getD i true = false) → listed.size = ops.size → M.length ≤ fuel →
      (∀ (i : Nat) (o : Oper), ops[i]? = some o → listed.getD i false = true → ∀ e ∈ o.after, Region.binds .any e = true → listed.getD e.on false = true) →
      GlobOk G gl → RepEnv G en a.tmps → Rel G h w → base ≤ h.length → nt ≤ a.tmps.size → evOps call base (M.map f) en h = some (en', h') →
      (∀ a' w' G', Reach G w h' w' G' → RepEnv G' en' a'.tmps → a'.tmps.size = a.tmps.size → a'.defers = a.defers → Q .normal a' w') → wpAny P .any ops Q fuel listed a w := by
  intro fuel
  have done : ∀ (listed : Array Bool) (M : List Nat) {G : Tie} {en en' : Env} {h h' : Heap} {a : Act} {w : World},
      (∀ i, i ∈ M ↔ i < ops.size ∧ listed.getD i true = false) → listed.size = ops.size → 
      RepEnv G en a.tmps → Rel G h w → evOps call base (M.map f) en h = some (en', h') →
      (∀ a' w' G', Reach G w h' w' G' → RepEnv G' en' a'.tmps → a'.tmps.size = a.tmps.size → a'.defers = a.defers → Q .normal a' w') → Region.ready .any ops listed = [] → Q .normal a w := by
    intro listed M G en en' h h' a w hM hlen he R hs hQ hr
    by_cases hMn : M = []
    · subst hMn
      simp only [List.map_nil, evOps, Option.some.injEq, Prod.mk.injEq] at hs
      obtain ⟨rfl, rfl⟩ := hs
      exact hQ a w G (Reach.refl R) he rfl rfl
    · exfalso
      obtain ⟨m, hmM, hleast⟩ := least_mem hMn
      obtain ⟨hm, hml⟩ := (hM m).1 hmM
      have : m ∈ Region.ready .any ops listed := by
        rw [mem_ready]
        refine ⟨hml, ops[m], Array.getElem?_eq_getElem hm, fun e he hb => ?_⟩
        have hlt := hback m _ (Array.getElem?_eq_getElem hm) e he hb
        cases hv : listed.getD e.on false with
        | true => rfl
        | false =>
          exfalso
          have hin : e.on ∈ M := (hM e.on).2 ⟨by omega, by
            have : e.on < listed.size := by omega
            simp [this] at hv ⊢
            exact hv⟩
          have := hleast _ hin
          omega
      rw [hr] at this
      simp at this
  induction fuel with
  | zero =>
    intro listed M G en en' h h' a w hnd hp hM hlen hfuel down hgl he R hb hsz hs hQ
    have hMn : M = [] := by simpa using hfuel
    have hr : Region.ready .any ops listed = [] := by
      refine List.eq_nil_iff_forall_not_mem.2 fun i hi => ?_
      rw [mem_ready] at hi
      have := (hM i).2 ⟨by have := getD_true_lt hi.1; omega, hi.1⟩
      rw [hMn] at this
      simp at this
    exact ⟨hr, done listed M hM hlen he R hs hQ hr⟩
  | succ fuel ih =>
    intro listed M G en en' h h' a w hnd hp hM hlen hfuel down hgl he R hb hsz hs hQ
    refine ⟨done listed M hM hlen he R hs hQ, fun i hi => ?_⟩
    obtain ⟨hil, o, ho, hall⟩ := mem_ready.1 hi
    have hisz : i < ops.size := by have := getD_true_lt hil; omega
    have him := (hM i).2 ⟨hisz, hil⟩
    obtain ⟨p, r, rfl⟩ := List.append_of_mem him
    have hcm : ∀ x ∈ p.map f, commB quiet x (f i) = true := by
      intro y hy
      simp only [List.mem_map] at hy
      obtain ⟨x, hx, rfl⟩ := hy
      unfold PairsOk at hp
      rw [List.pairwise_append] at hp
      rcases hp.2.2 x hx i (by simp) with hd | hd
      · exfalso
        have h1 := depB_listed down _ _ _ o ho hall hd
        have h2 := ((hM x).1 (by simp [hx])).2
        have h3 := getD_true_lt h2
        simp [h3] at h1 h2
        rw [h1] at h2
        simp at h2
      · exact hd
    rw [List.map_append, List.map_cons] at hs
    have hs2 := front hq hcm hs
    rw [evOps_cons, Option.bind_eq_some_iff] at hs2
    obtain ⟨⟨v, h1⟩, e1, e2⟩ := hs2
    refine one_wp hc ho (hf i o ho) hgl he R hb hsz e1 fun a' w' G' hreach hb' he' q1 q2 => ?_
    have hsub : (p ++ r).Sublist (p ++ i :: r) := List.Sublist.append_left (List.sublist_cons_self i r) p
    have hni : i ∉ p ++ r := by
      have h1 := List.nodup_append.1 hnd
      have h2 := List.nodup_cons.1 h1.2.1
      intro hc
      rcases List.mem_append.1 hc with hc | hc
      · exact h1.2.2 i hc i (by simp) rfl
      · exact h2.1 hc
    rw [← List.map_append] at e2
    refine ih (listed.setIfInBounds i true) (p ++ r) (hnd.sublist hsub) (List.Pairwise.sublist hsub hp) ?_ (by simpa using hlen) (by simp at hfuel ⊢; omega) ?_ (hgl.ext hreach.ext) he' hreach.rel hb' (by omega) e2 fun a'' w'' G'' hreach' he'' r1 r2 => hQ a'' w'' G'' (hreach.trans hreach') he'' (r1.trans q1) (r2.trans q2)
    · intro x
      by_cases hx : i = x
      · subst hx
        constructor
        · intro hx; exact absurd hx hni
        · rintro ⟨_, hx⟩
          have : i < listed.size := by omega
          simp [this] at hx
      · rw [getD_set_ne true hx, ← hM x]
        simp only [List.mem_append, List.mem_cons]
        constructor
        · rintro (h1 | h1)
          · exact .inl h1
          · exact .inr (.inr h1)
        · rintro (h1 | h1 | h1)
          · exact .inl h1
          · exact absurd h1.symm hx
          · exact .inr h1
    · intro x ox hox hxl e hm hbd
      by_cases hx : i = x
      · subst hx
        rw [ho] at hox
        injection hox with hox
        subst hox
        exact getD_set_true (hall e hm hbd)
      · rw [getD_set_ne false hx] at hxl
        exact getD_set_true (down x ox hox hxl e hm hbd)

/-- How an abstract run of code leaves, in the machine's words. -/
def Ex.toExit : Ex → Exit
  | .normal => .normal
  | .exit id => .exit id
  | .ret => .ret

theorem compOps_all {all : List Oper} : ∀ {ops : List Oper} {aops : List AOper} (k : Nat), compOps P gl nt all ops = some aops → (∀ j o, ops[j]? = some o → all[k + j]? = some o) →
    All2 (fun i ao => ∃ o, all[i]? = some o ∧ compOper P gl nt all o = some ao) (List.range' k ops.length) aops
  | [], aops, k, h, _ => by simp [compOps] at h; subst h; simp [All2]
  | o :: ops, aops, k, h, hk => by
    simp only [compOps, Option.bind_eq_some_iff, Option.map_eq_some_iff] at h
    obtain ⟨ao, h1, r, h2, rfl⟩ := h
    simp only [List.length_cons, List.range'_succ, All2]
    refine ⟨ao, r, rfl, ⟨o, by simpa using hk 0 o (by simp), h1⟩, compOps_all (k + 1) h2 fun j o' hj => ?_⟩
    have := hk (j + 1) o' (by simpa using hj)
    rwa [show k + (j + 1) = k + 1 + j by omega] at this

/-- A code's run does what the abstract one does. -/
def CodeOk (P : Program) (gl : Nat → Option (List V)) (base nt : Nat) (c : Code) (f : Env → Heap → Option (Ex × Env × Heap)) : Prop :=
  ∀ {G en en' h h' a w ex} {Q : Exit → Act → World → Prop}, GlobOk G gl → RepEnv G en a.tmps → Rel G h w → base ≤ h.length → nt ≤ a.tmps.size → f en h = some (ex, en', h') →
    (∀ a' w' G', Reach G w h' w' G' → RepEnv G' en' a'.tmps → a'.tmps.size = a.tmps.size → a'.defers = a.defers → Q ex.toExit a' w') → c.wp P Q a w

theorem iter_wp {c : Code} {f : Env → Heap → Option (Ex × Env × Heap)} {Q : Exit → Act → World → Prop} (hf : CodeOk P gl base nt c f)
    (hgrow : ∀ en h ex en' h', base ≤ h.length → f en h = some (ex, en', h') → Grow base h h') :
    ∀ (k : Nat) {G : Tie} {en en' : Env} {h h' : Heap} {a : Act} {w : World} {ex : Ex}, GlobOk G gl → RepEnv G en a.tmps → Rel G h w → base ≤ h.length → nt ≤ a.tmps.size → iter f k en h = some (ex, en', h') →
      (∀ a' w' G', Reach G w h' w' G' → RepEnv G' en' a'.tmps → a'.tmps.size = a.tmps.size → a'.defers = a.defers → Q ex.toExit a' w') → Code.rounds P c Q k a w
  | 0, _, _, _, _, _, _, _, _, _, _, _, _, _, hs, _ => by simp [iter] at hs
  | k + 1, G, en, en', h, h', a, w, ex, hgl, he, R, hb, hsz, hs, hQ => by
    rw [rounds_succ]
    unfold iter at hs
    split at hs
    · rename_i en1 h1 e1
      refine hf hgl he R hb hsz e1 fun a' w' G' hreach he' q1 q2 => ?_
      refine iter_wp hf hgrow k (hgl.ext hreach.ext) he' hreach.rel (Nat.le_trans hb (hgrow _ _ _ _ _ hb e1).1) (by omega) hs fun a'' w'' G'' hreach' he'' r1 r2 => ?_
      exact hQ a'' w'' G'' (hreach.trans hreach') he'' (r1.trans q1) (r2.trans q2)
    · rename_i hno
      refine hf hgl he R hb hsz hs fun a' w' G' hreach he' q1 q2 => ?_
      have := hQ a' w' G' hreach he' q1 q2
      cases ex with
      | normal => exact absurd hs (hno en' h')
      | exit id => exact this
      | ret => exact this

theorem All2.mono {α β : Type} {R S : α → β → Prop} (h : ∀ a b, R a b → S a b) : ∀ {as : List α} {bs : List β}, All2 R as bs → All2 S as bs
  | [], _, e => e
  | _ :: _, _, ⟨b, rest, e, r, t⟩ => ⟨b, rest, e, h _ _ r, All2.mono h t⟩

theorem All2.map_right {α β γ : Type} {R : α → γ → Prop} (f : β → γ) : ∀ {as : List α} {bs : List β}, All2 (fun a b => R a (f b)) as bs → All2 R as (bs.map f)
  | [], bs, h => by simp only [All2] at h; subst h; simp [All2]
  | a :: as, bs, h => by
    simp only [All2] at h
    obtain ⟨b, r, rfl, h1, h2⟩ := h
    simp only [List.map_cons, All2]
    exact ⟨_, _, rfl, h1, All2.map_right f h2⟩
theorem All2.length {α β : Type} {R : α → β → Prop} : ∀ {as : List α} {bs : List β}, All2 R as bs → bs.length = as.length
  | [], _, e => by simp only [All2] at e; subst e; rfl
  | _ :: _, _, ⟨b, rest, e, r, t⟩ => by subst e; simp [All2.length t]

theorem All2.get {α β : Type} {R : α → β → Prop} : ∀ {as : List α} {bs : List β}, All2 R as bs → ∀ (i : Nat) (a : α), as[i]? = some a → ∃ b, bs[i]? = some b ∧ R a b
  | [], _, _, i, a, h => by simp at h
  | x :: as, _, ⟨b, rest, e, r, t⟩, 0, a, h => by
    simp only [List.getElem?_cons_zero, Option.some.injEq] at h
    subst h
    exact ⟨b, by simp [e], r⟩
  | x :: as, _, ⟨b, rest, e, r, t⟩, i + 1, a, h => by
    simp only [List.getElem?_cons_succ] at h
    obtain ⟨b', h1, h2⟩ := All2.get t i a h
    exact ⟨b', by simp [e, h1], h2⟩

theorem okPairs_spec {quiet : FuncId → Nat} {ops : List Oper} {l : List AOper} : ∀ {pi : List Nat}, okPairs quiet ops l pi = true → PairsOk quiet ops (fun i => l.getD i default) pi
  | [], _ => List.Pairwise.nil
  | x :: r, h => by
    simp only [okPairs, Bool.and_eq_true, List.all_eq_true, Bool.or_eq_true] at h
    refine List.Pairwise.cons (fun i hi => ?_) (okPairs_spec h.2)
    rcases h.1 i hi with h1 | h1
    · exact .inl h1
    · right
      cases hx : l[x]? with
      | none => rw [hx] at h1; simp at h1
      | some a =>
        cases hi : l[i]? with
        | none => rw [hx, hi] at h1; simp at h1
        | some b =>
          rw [hx, hi] at h1
          simpa [List.getD, hx, hi] using h1

theorem nodupB_spec : ∀ {pi : List Nat}, nodupB pi = true → pi.Nodup
  | [], _ => List.nodup_nil
  | x :: r, h => by
    simp only [nodupB, Bool.and_eq_true, Bool.not_eq_true'] at h
    exact List.nodup_cons.2 ⟨by simpa using h.1, nodupB_spec h.2⟩

/-- A region whose order is open. -/
theorem draw_wp {quiet : FuncId → Nat} (hm : P.follows .mixedOrders = true) (hq : QuietOk quiet call) (hc : CallOk P gl call) {id : Nat} {ops : Array Oper} {aops B : List AOper} (pi : List Nat) (hco : compOps P gl nt ops.toList ops.toList = some aops)
    (hB : B.length = aops.length ∧ ∀ (i : Nat) (x y : AOper), B[i]? = some x → aops[i]? = some y → Stands x y) (hok : okDraw quiet ops.toList B pi = true) :
    CodeOk P gl base nt (.region id ops true) (fun en h => (evOps call base (takeOrder B pi) en h).map fun r => (Ex.normal, r.1, r.2)) := by
  intro G en en' h h' a w ex Q hgl he R hb hsz hs hQ
  simp only [Option.map_eq_some_iff, Prod.mk.injEq] at hs
  obtain ⟨⟨en1, h1⟩, e1, rfl, rfl, rfl⟩ := hs
  have hall := compOps_all (P := P) (gl := gl) (nt := nt) (all := ops.toList) 0 hco (fun j o hj => by simpa using hj)
  have hlen : aops.length = ops.size := by
    have := hall.length
    simpa using this
  simp only [okDraw, Bool.and_eq_true, List.all_eq_true, List.mem_range, beq_iff_eq, Array.length_toList] at hok
  obtain ⟨⟨⟨⟨hpairs, hpl⟩, hnd⟩, hlt⟩, hrest⟩ := hok
  have hnd := nodupB_spec hnd
  have hlt : ∀ i ∈ pi, i < ops.size := fun i hi => by simpa using hlt i hi
  have hpairs' := okPairs_spec hpairs
  refine wp_region_any hm (any_wp hq hc (f := fun i => B.getD i default) ?_ ?_ ops.size (Array.replicate ops.size false) pi hnd hpairs' ?_ (by simp) (by omega) ?_ hgl he R.drew hb hsz e1 ?_)
  · intro i o ho
    have hi : i < ops.size := (Array.getElem?_eq_some_iff.1 ho).1
    obtain ⟨ao, h1, o', ho', hco'⟩ := hall.get i i (by simp [hi])
    rw [Array.getElem?_toList, ho] at ho'
    injection ho' with ho'
    subst ho'
    have hib : i < B.length := by omega
    refine ⟨ao, hco', ?_⟩
    have := hB.2 i B[i] ao (List.getElem?_eq_getElem hib) h1
    simpa [List.getD, hib] using this
  · intro i o ho e hm hbd
    have hi : i < ops.size := (Array.getElem?_eq_some_iff.1 ho).1
    have h1 := (hrest i hi).2
    rw [Array.getElem?_toList, ho] at h1
    simp only [List.all_eq_true, Array.mem_toList_iff, Bool.or_eq_true, Bool.not_eq_true', decide_eq_true_eq] at h1
    rcases h1 e hm with h1 | h1
    · rw [hbd] at h1; simp at h1
    · exact h1
  · intro i
    constructor
    · intro hi; exact ⟨hlt i hi, by simp [hlt i hi]⟩
    · rintro ⟨hi, _⟩; simpa using (hrest i hi).1
  · intro i o ho hl
    have hi : i < ops.size := (Array.getElem?_eq_some_iff.1 ho).1
    simp [hi] at hl
  · intro a' w' G' hreach he' q1 q2
    exact hQ a' w' G' ((⟨Ext.refl G, R.drew, ⟨rfl, rfl, rfl, Nat.le_refl _, fun _ _ => rfl⟩⟩ : Reach G w h _ G).trans hreach) he' q1 q2

theorem code_wp {quiet : FuncId → Nat} {frz : Bool} (hm : P.follows .mixedOrders = true) (hq : QuietOk quiet call) (hc : CallOk P gl call) :
    ∀ {c : Code} {ac : ACode}, comp P gl quiet frz nt c = some ac → CodeOk P gl base nt c (fun en h => evC call base n ac en h) := by
  intro c
  induction c with
  | skip =>
    intro ac hco G en en' h h' a w ex Q hgl he R hb hsz hs hQ
    simp only [comp, Option.some.injEq] at hco
    subst hco
    simp only [evC, Option.some.injEq, Prod.mk.injEq] at hs
    obtain ⟨rfl, rfl, rfl⟩ := hs
    exact wp_skip (hQ a w G (Reach.refl R) he rfl rfl)
  | ret =>
    intro ac hco G en en' h h' a w ex Q hgl he R hb hsz hs hQ
    simp only [comp, Option.some.injEq] at hco
    subst hco
    simp only [evC, Option.some.injEq, Prod.mk.injEq] at hs
    obtain ⟨rfl, rfl, rfl⟩ := hs
    exact wp_ret (hQ a w G (Reach.refl R) he rfl rfl)
  | exit id =>
    intro ac hco G en en' h h' a w ex Q hgl he R hb hsz hs hQ
    simp only [comp, Option.some.injEq] at hco
    subst hco
    simp only [evC, Option.some.injEq, Prod.mk.injEq] at hs
    obtain ⟨rfl, rfl, rfl⟩ := hs
    exact wp_exit (hQ a w G (Reach.refl R) he rfl rfl)
  | seq x y ihx ihy =>
    intro ac hco G en en' h h' a w ex Q hgl he R hb hsz hs hQ
    simp only [comp, Option.bind_eq_some_iff, Option.map_eq_some_iff] at hco
    obtain ⟨ax, hx, ay, hy, rfl⟩ := hco
    simp only [evC] at hs
    refine wp_seq ?_
    split at hs
    · rename_i en1 h1 e1
      refine ihx hx hgl he R hb hsz e1 fun a' w' G' hreach he' q1 q2 => ?_
      refine ihy hy (hgl.ext hreach.ext) he' hreach.rel (Nat.le_trans hb (evC_grow hc hb e1).1) (by omega) hs fun a'' w'' G'' hreach' he'' r1 r2 => ?_
      exact hQ a'' w'' G'' (hreach.trans hreach') he'' (r1.trans q1) (r2.trans q2)
    · rename_i hno
      refine ihx hx hgl he R hb hsz hs fun a' w' G' hreach he' q1 q2 => ?_
      have := hQ a' w' G' hreach he' q1 q2
      cases ex with
      | normal => exact absurd hs (hno en' h')
      | exit id => exact this
      | ret => exact this
  | cond cnd x y ihx ihy =>
    intro ac hco G en en' h h' a w ex Q hgl he R hb hsz hs hQ
    simp only [comp, Option.bind_eq_some_iff, Option.map_eq_some_iff] at hco
    obtain ⟨cc, hcc, ax, hx, ay, hy, rfl⟩ := hco
    simp only [evC] at hs
    split at hs
    · rename_i t ht
      have hrep := opd_rep hgl he hcc
      rw [ht] at hrep
      refine wp_cond (t := t) hrep.sc_inv ?_
      split at hs
      · rename_i htt
        rw [if_pos htt]
        exact ihx hx hgl he R hb hsz hs hQ
      · rename_i htt
        rw [if_neg htt]
        exact ihy hy hgl he R hb hsz hs hQ
    · simp at hs
  | block id x ih =>
    intro ac hco G en en' h h' a w ex Q hgl he R hb hsz hs hQ
    simp only [comp, Option.map_eq_some_iff] at hco
    obtain ⟨ax, hx, rfl⟩ := hco
    simp only [evC] at hs
    refine wp_block ?_
    split at hs
    · rename_i i en1 h1 e1
      refine ih hx hgl he R hb hsz e1 fun a' w' G' hreach he' q1 q2 => ?_
      simp only [Ex.toExit, Exit.inBlock]
      split at hs
      · rename_i hi
        rw [if_pos hi]
        simp only [Option.some.injEq, Prod.mk.injEq] at hs
        obtain ⟨rfl, rfl, rfl⟩ := hs
        exact hQ a' w' G' hreach he' q1 q2
      · rename_i hi
        rw [if_neg hi]
        simp only [Option.some.injEq, Prod.mk.injEq] at hs
        obtain ⟨rfl, rfl, rfl⟩ := hs
        exact hQ a' w' G' hreach he' q1 q2
    · rename_i hno
      refine ih hx hgl he R hb hsz hs fun a' w' G' hreach he' q1 q2 => ?_
      have := hQ a' w' G' hreach he' q1 q2
      cases ex with
      | normal => exact this
      | exit i => exact absurd hs (hno i en' h')
      | ret => exact this
  | loop x ih =>
    intro ac hco G en en' h h' a w ex Q hgl he R hb hsz hs hQ
    simp only [comp, Option.map_eq_some_iff] at hco
    obtain ⟨ax, hx, rfl⟩ := hco
    simp only [evC] at hs
    exact wp_loop_rounds n (iter_wp (ih hx) (fun _ _ _ _ _ hb e => evC_grow hc hb e) n hgl he R hb hsz hs hQ)
  | region id ops draw =>
    intro ac hco G en en' h h' a w ex Q hgl he R hb hsz hs hQ
    simp only [comp, Option.bind_eq_some_iff, Option.some.injEq] at hco
    obtain ⟨aops, hx, rfl⟩ := hco
    cases frz with
    | true =>
      simp only [if_true] at hs
      have fin : ∀ {B : List AOper}, evC call base n (.region B) en h = some (ex, en', h') → (evOps call base B en h).map (fun r => (Ex.normal, r.1, r.2)) = some (ex, en', h') := by
        intro B e
        simp only [evC] at e
        split at e
        · rename_i en1 h1 e1
          rw [e1]; exact e
        · simp at e
      have hall := compOps_all (P := P) (gl := gl) (nt := nt) (all := ops.toList) 0 hx (fun j o hj => by simpa using hj)
      have hlen : aops.length = ops.toList.length := by
        have := hall.length
        simpa using this
      have hoff : ∀ (i : Nat) (y : AOper), aops[i]? = some y → y.off = [] := by
        intro i y hy
        have hi : i < ops.toList.length := by
          have := (List.getElem?_eq_some_iff.1 hy).1
          omega
        obtain ⟨y', hy', o, _, hco⟩ := hall.get i i (by rw [List.getElem?_range' hi]; simp)
        rw [hy] at hy'
        injection hy' with hy'
        subst hy'
        exact (compOper_inv hco).1
      cases draw with
      | false =>
        simp only [regionZ, Bool.not_false, if_true, evC] at hs
        split at hs
        · rename_i en1 h1 e1
          simp only [Option.some.injEq, Prod.mk.injEq] at hs
          obtain ⟨rfl, rfl, rfl⟩ := hs
          refine wp_region ?_
          have hall' : All2 (fun i ao => ∃ o, ops[i]? = some o ∧ Serves P gl nt ops.toList o ao) (List.range ops.size) (aops.map AOper.frz) := by
            rw [List.range_eq_range', ← Array.length_toList]
            refine All2.map_right AOper.frz (All2.mono ?_ hall)
            rintro i ao ⟨o, h1, h2⟩
            exact ⟨o, by rwa [Array.getElem?_toList] at h1, ao, h2, Stands.frz (compOper_inv h2).1⟩
          exact ops_wp hc hall' hgl he R hb hsz e1 hQ
        · simp at hs
      | true =>
        simp only [regionZ, Bool.not_true, Bool.false_eq_true, if_false] at hs
        split at hs
        · rename_i hok
          have hB : (aops.map AOper.frz).length = aops.length ∧ ∀ (i : Nat) (x y : AOper), (aops.map AOper.frz)[i]? = some x → aops[i]? = some y → Stands x y := by
            refine ⟨by simp, fun i x y h1 h2 => ?_⟩
            rw [List.getElem?_map, h2] at h1
            simp only [Option.map_some, Option.some.injEq] at h1
            subst h1
            exact Stands.frz (hoff i y h2)
          have whole : ∀ {B : List AOper} {n : Nat}, B.length = n → takeOrder B (List.range n) = B := by
            intro B n hn
            refine List.ext_getElem (by simp [takeOrder, hn]) fun i h1 h2 => ?_
            simp [takeOrder, List.getD, h2]
          have := fin hs
          rw [← whole (B := aops.map AOper.frz) (n := ops.toList.length) (by rw [List.length_map]; exact hlen)] at this
          exact draw_wp hm hq hc _ hx hB hok hgl he R hb hsz this hQ
        · simp [evC] at hs
    | false =>
    simp only [Bool.false_eq_true, if_false] at hs
    cases draw with
    | false =>
      simp only [regionOf, Bool.not_false, if_true, evC] at hs
      split at hs
      · rename_i en1 h1 e1
        simp only [Option.some.injEq, Prod.mk.injEq] at hs
        obtain ⟨rfl, rfl, rfl⟩ := hs
        refine wp_region ?_
        have hall := compOps_all (P := P) (gl := gl) (nt := nt) (all := ops.toList) 0 hx (fun j o hj => by simpa using hj)
        have hall' : All2 (fun i ao => ∃ o, ops[i]? = some o ∧ Serves P gl nt ops.toList o ao) (List.range ops.size) aops := by
          rw [List.range_eq_range', ← Array.length_toList]
          refine All2.mono ?_ hall
          rintro i ao ⟨o, h1, h2⟩
          exact ⟨o, by rwa [Array.getElem?_toList] at h1, ao, h2, Stands.refl _⟩
        exact ops_wp hc hall' hgl he R hb hsz e1 hQ
      · simp at hs
    | true =>
      have fin : ∀ {B : List AOper}, evC call base n (.region B) en h = some (ex, en', h') → (evOps call base B en h).map (fun r => (Ex.normal, r.1, r.2)) = some (ex, en', h') := by
        intro B e
        simp only [evC] at e
        split at e
        · rename_i en1 h1 e1
          rw [e1]; exact e
        · simp at e
      have hoff : ∀ (i : Nat) (y : AOper), aops[i]? = some y → y.off = [] := by
        intro i y hy
        have hall := compOps_all (P := P) (gl := gl) (nt := nt) (all := ops.toList) 0 hx (fun j o hj => by simpa using hj)
        have hi : i < ops.toList.length := by
          have := hall.length
          simp only [List.length_range'] at this
          have := (List.getElem?_eq_some_iff.1 hy).1
          omega
        obtain ⟨y', hy', o, _, hco⟩ := hall.get i i (by rw [List.getElem?_range' hi]; simp)
        rw [hy] at hy'
        injection hy' with hy'
        subst hy'
        exact (compOper_inv hco).1
      have whole : ∀ {B : List AOper} {n : Nat}, B.length = n → takeOrder B (List.range n) = B := by
        intro B n hn
        refine List.ext_getElem (by simp [takeOrder, hn]) fun i h1 h2 => ?_
        simp [takeOrder, List.getD, h2]
      have hlen : aops.length = ops.toList.length := by
        have hall := compOps_all (P := P) (gl := gl) (nt := nt) (all := ops.toList) 0 hx (fun j o hj => by simpa using hj)
        have := hall.length
        simpa using this
      have mapSt : ∀ (g : AOper → AOper), (∀ y : AOper, y.off = [] → Stands (g y) y) → (aops.map g).length = aops.length ∧ ∀ (i : Nat) (x y : AOper), (aops.map g)[i]? = some x → aops[i]? = some y → Stands x y := by
        intro g hg
        refine ⟨by simp, fun i x y h1 h2 => ?_⟩
        rw [List.getElem?_map, h2] at h1
        simp only [Option.map_some, Option.some.injEq] at h1
        subst h1
        exact hg y (hoff i y h2)
      have same : aops.length = aops.length ∧ ∀ (i : Nat) (x y : AOper), aops[i]? = some x → aops[i]? = some y → Stands x y :=
        ⟨rfl, fun i x y h1 h2 => by rw [h1] at h2; injection h2 with h2; rw [h2]; exact Stands.refl _⟩
      simp only [regionOf, Bool.not_true, Bool.false_eq_true, if_false] at hs
      split at hs
      · rename_i hok
        have := fin hs
        rw [← whole hlen] at this
        exact draw_wp hm hq hc _ hx same hok hgl he R hb hsz this hQ
      · split at hs
        · rename_i hok
          exact draw_wp hm hq hc _ hx same hok hgl he R hb hsz (fin hs) hQ
        · split at hs
          · rename_i hok
            exact draw_wp hm hq hc _ hx (mapSt _ fun y hy => Stands.keep _ hy) hok hgl he R hb hsz (fin hs) hQ
          · split at hs
            · rename_i hok
              have := fin hs
              rw [← whole (B := aops.map AOper.frz) (n := ops.toList.length) (by rw [List.length_map]; exact hlen)] at this
              exact draw_wp hm hq hc _ hx (mapSt _ fun y hy => Stands.frz hy) hok hgl he R hb hsz this hQ
            · simp [evC] at hs
  | rangeFunc f ps asg body ih1 ih2 =>
    intro ac hco G en en' h h' a w ex Q hgl he R hb hsz hs hQ
    simp only [comp, Option.some.injEq] at hco
    subst hco
    simp [evC] at hs
  | scope x ih =>
    intro ac hco G en en' h h' a w ex Q hgl he R hb hsz hs hQ
    simp only [comp, Option.some.injEq] at hco
    subst hco
    simp [evC] at hs
  | label l =>
    intro ac hco G en en' h h' a w ex Q hgl he R hb hsz hs hQ
    simp only [comp, Option.some.injEq] at hco
    subst hco
    simp [evC] at hs
  | goto l =>
    intro ac hco G en en' h h' a w ex Q hgl he R hb hsz hs hQ
    simp only [comp, Option.some.injEq] at hco
    subst hco
    simp [evC] at hs
  | refuse why =>
    intro ac hco G en en' h h' a w ex Q hgl he R hb hsz hs hQ
    simp only [comp, Option.some.injEq] at hco
    subst hco
    simp [evC] at hs

end
end Go.Am
