/- The abstract machine and what is proved in it, part 7. -/
import Derived.Test.YtmlidlbchidgdaaGreatDoorAm6
import Derived.Deep.Slices
import Derived.ChangeSame
import Derived.Carry
import Derived.ProofKit
import Derived.WideKeyArgs
import Derived.OpenShut
import Derived.RowKit
import Derived.FnData
set_option linter.unusedVariables false
set_option linter.unusedSimpArgs false
namespace Go.Am
section
open Go.RowKit (Below)
def start (W : World) : Tie := { fz := fun b o => W.cell? ⟨b, o, none⟩, n := 0, bx := fun _ => 0, rw := fun _ => none, b0 := W.heap.size }
theorem start_rel (W : World) : Rel (start W) [] W where
  n := rfl
  fz _ _ _ h := h
  box b t cs e := by simp at e
  row b t sz e rows eq := by simp at eq
  mp b es e := by simp at e
  low b k h := by simp [Tie.real] at h
  inj b b' k h := by simp [Tie.real] at h
  hb0 := Nat.le_refl _
  kp k h := by simp [start] at h
section
variable {H : Type} {enc : TypeId × Value → H} {P : Program} {W : World} {base : Nat} {spare : Nat → Bool} {held : Bool}
def Reads (W : World) (Good : List V → Prop) (n : Nat) (cs : List Value) : Prop := ∃ vs : List V, vs.length = n ∧ vs.all ground = true ∧ Good vs ∧ RepL (start W) vs cs
theorem cell_spot {a : Addr} {v : Value} (h : W.cell? a = some v) : a.spot = none := by
  unfold World.cell? at h
  split at h
  · split at h
    · simp at h
    · rename_i hs
      simpa using hs
  · simp at h
theorem add_of_none {a : Addr} (h : a.spot = none) (n : Nat) : a.add n = ⟨a.block, a.off + n, none⟩ := by
  obtain ⟨b, o, s⟩ := a
  simp only at h
  subst h
  exact add_none b o n
theorem repF_start {b : Nat} : ∀ {vs : List V} {o : Nat} {cs : List Value}, RepL (start W) vs cs → (∀ (j : Nat) c, cs[j]? = some c → W.cell? ⟨b, o + j, none⟩ = some c) → RepF (start W) b o vs
  | [], _, _, _, _ => by simp [RepF]
  | v :: vs, o, cs, h, hc => by
    simp only [RepL] at h
    obtain ⟨c, rest, rfl, h1, h2⟩ := h
    simp only [RepF]
    refine ⟨⟨c, by simpa [start] using hc 0 c rfl, h1⟩, repF_start h2 fun j d hj => ?_⟩
    have := hc (j + 1) d (by simpa using hj)
    rwa [show o + (j + 1) = o + 1 + j by omega] at this
theorem cells_inv {a : Addr} {n : Nat} {cs : List Value} (h : W.cells? base a n = some cs) : cs.length = n ∧ ∀ (j : Nat) c, cs[j]? = some c → W.cell? (a.add j) = some c := by
  unfold World.cells? at h
  split at h
  · have key : ∀ (l : List Nat) (cs : List Value), (l.mapM fun i => W.cell? (a.add i)) = some cs → cs.length = l.length ∧ ∀ (j i : Nat) c, l[j]? = some i → cs[j]? = some c → W.cell? (a.add i) = some c := by
      intro l
      induction l with
      | nil => intro cs h; simp at h; subst h; simp
      | cons i l ih =>
        intro cs h
        rw [List.mapM_cons] at h
        simp only [Option.bind_eq_bind, Option.bind_eq_some_iff, Option.pure_def, Option.some.injEq] at h
        obtain ⟨c, h1, r, h2, rfl⟩ := h
        obtain ⟨q1, q2⟩ := ih r h2
        refine ⟨by simp [q1], fun j i' c' hj hc => ?_⟩
        cases j with
        | zero => simp at hj hc; subst hj; subst hc; exact h1
        | succ j => exact q2 j i' c' (by simpa using hj) (by simpa using hc)
    obtain ⟨q1, q2⟩ := key _ _ h
    refine ⟨by simpa using q1, fun j c hj => ?_⟩
    have hlt : j < n := by
      have := (List.getElem?_eq_some_iff.1 hj).1
      simp at q1
      omega
    exact q2 j j c (by simp [hlt]) hj
  · simp at h
theorem trod_slcN {t e : TypeId} {fuel : Nat} {cs : List Value} {x : DataW H × List MemPlace} {Good : List V → Prop} (ht : P.underlying t = some (.slice e)) (h0 : 0 < P.cellsOf e)
    (hel : ∀ (n : Nat) (cs : List Value) (y : DataW H × List MemPlace), fuel = n + 1 → DataW.trod enc P W base spare held n e cs = some y → cs.length = P.cellsOf e → Reads W Good (P.cellsOf e) cs)
    (h : DataW.trod enc P W base spare held fuel t cs = some x) : ∃ rows : List (List V), RepL (start W) [.slc .any (P.cellsOf e) rows] cs ∧ rows.length ≤ Go.maxLen ∧ ∀ r ∈ rows, r.length = P.cellsOf e ∧ Good r := by
  rcases DataW.trod_slice ht h with ⟨rfl, _⟩ | ⟨a, len, cap, elems, rest, n, hfu, rfl, _, _, hl, hm, hlen, hi, _, _⟩
  · refine ⟨[], ?_, by simp, by simp⟩
    simp only [RepL, RepV]
    exact ⟨_, _, rfl, ⟨none, 0, rfl, by simp, by simp, by simp, 0, 0, by simp, by simp, by simp [RepRows]⟩, rfl⟩
  · have hex : ∀ k, k ≤ len → ∃ rows : List (List V), rows.length = k ∧ (rows.all fun l => l.all ground) = true ∧ (∀ r ∈ rows, r.length = P.cellsOf e ∧ Good r) ∧
        (rows ≠ [] → a.spot = none) ∧ ∀ (i : Nat) r, rows[i]? = some r → RepF (start W) a.block (a.off + i * P.cellsOf e) r := by
      intro k
      induction k with
      | zero => intro _; exact ⟨[], rfl, by simp, by simp, by simp, by simp⟩
      | succ k ih =>
        intro hk
        obtain ⟨rows, q1, q2, q3, q4, q5⟩ := ih (by omega)
        have hik := hi k (by omega)
        rw [List.getElem?_eq_getElem (by omega), Option.bind_eq_some_iff] at hik
        obtain ⟨cs', h1, h2⟩ := hik
        obtain ⟨hcl, hcc⟩ := cells_inv h1
        obtain ⟨vs, v1, v2, v3, v4⟩ := hel n cs' _ hfu h2 hcl
        have hsp : a.spot = none := by
          by_cases hne : rows = []
          · have hk0 : k = 0 := by rw [← q1, hne]; rfl
            subst hk0
            obtain ⟨c, hc⟩ : ∃ c, cs'[0]? = some c := ⟨cs'[0]'(by omega), List.getElem?_eq_getElem (by omega)⟩
            have := cell_spot (hcc 0 c hc)
            simpa [Addr.add] using this
          · exact q4 hne
        refine ⟨rows ++ [vs], by simp [q1], by simp [q2, v2], ?_, fun _ => hsp, ?_⟩
        · intro r hr
          rcases List.mem_append.1 hr with hr | hr
          · exact q3 r hr
          · simp at hr; subst hr; exact ⟨v1, v3⟩
        · intro i r hr
          rcases Nat.lt_or_ge i rows.length with hlt | hge
          · rw [List.getElem?_append_left hlt] at hr
            exact q5 i r hr
          · rw [List.getElem?_append_right hge] at hr
            have hik : i = k := by
              have := (List.getElem?_eq_some_iff.1 hr).1
              simp at this
              omega
            subst hik
            simp [q1] at hr
            subst hr
            refine repF_start v4 fun j c hj => ?_
            have := hcc j c hj
            rw [add_of_none hsp, add_of_none rfl] at this
            simpa using this
    obtain ⟨rows, q1, q2, q3, q4, q5⟩ := hex len (Nat.le_refl _)
    refine ⟨rows, ?_, by omega, q3⟩
    simp only [RepL, RepV]
    refine ⟨_, _, rfl, ⟨some a, cap, by rw [q1], by omega, by simp [Cp.isFull], q2, a.block, a.off, fun hne => ?_, fun e => by simp at e, ?_⟩, rfl⟩
    · obtain ⟨b, o, s⟩ := a
      have := q4 hne
      simp only at this
      subst this
      rfl
    · exact RepRows.of_get fun i r hr => ⟨(q3 r (List.mem_of_getElem? hr)).1, q5 i r hr⟩
theorem trod_slc {t e : TypeId} {fuel : Nat} {cs : List Value} {x : DataW H × List MemPlace} {Good : List V → Prop} (ht : P.underlying t = some (.slice e)) (h0 : 0 < P.cellsOf e)
    (hel : ∀ (n : Nat) (cs : List Value) (y : DataW H × List MemPlace), DataW.trod enc P W base spare held n e cs = some y → cs.length = P.cellsOf e → Reads W Good (P.cellsOf e) cs)
    (h : DataW.trod enc P W base spare held fuel t cs = some x) : ∃ rows : List (List V), RepL (start W) [.slc .any (P.cellsOf e) rows] cs ∧ rows.length ≤ Go.maxLen ∧ ∀ r ∈ rows, r.length = P.cellsOf e ∧ Good r :=
  trod_slcN ht h0 (fun n cs y _ => hel n cs y) h
theorem trod_intV {t : TypeId} {k : IntKind} {fuel : Nat} {cs : List Value} {x : DataW H × List MemPlace} (ht : P.underlying t = some (.int k)) (h : DataW.trod enc P W base spare held fuel t cs = some x) :
    ∃ n : Int, k.min ≤ n ∧ n ≤ k.max ∧ RepL (start W) [.sc (.int k n)] cs := by
  obtain ⟨n, rfl, _, hw⟩ := DataW.trod_int ht h
  simp only [Lit.wf, Bool.and_eq_true, decide_eq_true_eq] at hw
  exact ⟨n, hw.1, hw.2, by simp [RepL, RepV, Value.oneCell']⟩
theorem trod_strV {t : TypeId} {fuel : Nat} {cs : List Value} {x : DataW H × List MemPlace} (ht : P.underlying t = some .string) (h : DataW.trod enc P W base spare held fuel t cs = some x) :
    ∃ s : ByteArray, s.size ≤ Go.maxLen ∧ RepL (start W) [.sc (.string s)] cs := by
  obtain ⟨s, rfl, _, hw⟩ := DataW.trod_string ht h
  exact ⟨s, hw, by simp [RepL, RepV, Value.oneCell']⟩
end
end
section
open Go.ChangeShapes Go.WideShapes Go.ChangeAt Go.RowKit
section
variable {H : Type} {enc : TypeId × Value → H} {P : Program} {W W' : World}
theorem trodAll_stays (hl : laidOutB P = true) (hb : Below W.heap.size W W') : ∀ {ts : List TypeId} {vs : List Value} {ds : List (DataW H)} {ps : List MemPlace}, (∀ t ∈ ts, P.readableRec t = true ∧ t < P.types.size) →
    DataW.TrodAll enc P W 0 (fun _ => true) true ts vs ds ps → (∀ x ∈ ps, x.block < W.heap.size) → ∀ sp : Nat → Bool, (∀ p ∈ ps, sp p.block = true) → DataW.TrodAll enc P W' 0 sp true ts vs ds ps
  | [], _, _, _, _, h, _, sp, _ => by
    obtain ⟨rfl, rfl, rfl⟩ := trodAll_nil h
    exact trodAll_mk0
  | t :: ts, _, _, _, hr, h, hlt, sp, hsp => by
    obtain ⟨v, vs1, d, ds1, p, q, rfl, rfl, rfl, h1, h2⟩ := trodAll_cons h
    have ht := hr t (by simp)
    have k1 : DataW.Trod enc P W' 0 sp true t v d p := WideElems.Trod_stays hl ht.1 ht.2 h1 (fun x hx => hb.same (hlt x (by simp [hx]))) (fun x hx => hsp x (by simp [hx]))
    exact trodAll_cons_mk k1 (trodAll_stays hl hb (fun u hu => hr u (by simp [hu])) h2 (fun x hx => hlt x (by simp [hx])) sp (fun x hx => hsp x (by simp [hx])))
theorem law_post {f : Func} {s : ChangeSpec} {apart fresh handsOn again : Bool} {args : Array Value} {ds gs : List (DataW H)} {before : List MemPlace} {tb : TypeId} (hl : laidOutB P = true)
    (hpar : ∀ t ∈ f.params.toList, P.readableRec t = true ∧ t < P.types.size) (hres : f.resultTypes = #[tb]) (htb : P.underlying tb = some .bool) (hvars : s.vars = [])
    (hspec : (s.fn H (ds ++ gs)).results = [.lit (.bool true)] ∧ (s.fn H (ds ++ gs)).args = ds ∧ (s.fn H (ds ++ gs)).vars = [])
    (hW : DataW.Whole enc P f.params.toList s.vars apart W args.toList ds gs before) (hb : Below W.heap.size W W') : s.post enc P f apart fresh handsOn again W args (.bool true) W' := by
  have hlt := hW.lt
  have hW' := hW
  obtain ⟨p, q, hA, hV, rfl, hz, hn⟩ := hW
  rw [hvars] at hV
  obtain ⟨rfl, rfl⟩ := trodVars_none hV
  simp only [List.append_nil] at hW' hlt hz hn hspec
  have hargs : ∀ sp : Nat → Bool, (∀ x ∈ p, sp x.block = true) → DataW.TrodAll enc P W' 0 sp true f.params.toList args.toList ds p := trodAll_stays hl hb hpar hA hlt
  have hr : ∀ (b : Nat) (sp : Nat → Bool) (hd : Bool), DataW.TrodAll enc P W' b sp hd f.resultTypes.toList ((Value.bool true).resultList f.resultTypes.size) [DataW.lit (.bool true)] [] := by
    intro b sp hd
    rw [hres]
    exact trodAll_cons_mk (shut_bool htb true) trodAll_mk0
  have hk : W.keptBut W' (· ∈ p) := hb.frame _
  refine ⟨ds, [], p, [], p, [], by simpa using hW', ?_, ?_, ?_, World.keptBut_mono (fun x hx => ⟨hx, .inr (.inl hx)⟩) hk, fun _ => ⟨?_, ?_⟩⟩
  · rw [List.append_nil, hspec.1]; exact hr _ _ _
  · rw [List.append_nil, hspec.2.1]; exact hargs _ fun x hx => by simpa using hlt x hx
  · rw [List.append_nil, hspec.2.2, hvars]; rfl
  · exact ok_one hres rfl (okWide_bool_mk htb _)
  · refine ⟨_, [], ([] ++ p) ++ [], ⟨[] ++ p, [], trodAll_append (hargs _ (fun _ _ => rfl)) (hr _ _ _), ?_, rfl, ?_, ?_⟩, ?_⟩
    · rw [hvars]; exact rfl
    · intro b off hp
      simp only [List.nil_append, List.append_nil] at hp
      rw [hb.frozen (hlt _ hp)]
      exact hz b off hp
    · intro ha
      simpa using hn ha
    · intro x hx _
      simpa using hx
theorem law_calls {gl : Nat → Option (List V)} {S : Fns} {f : FuncId} {fn : Func} {args : Array Value} {vs : List V} (hcall : ∀ n, CallOk P gl (evCall S.X S.F n)) (hgl : GlobOk (start W) gl) (hargs : RepL (start W) vs args.toList)
    (hf : P.funcs[f]? = some fn) (hname : (fn.name == "runtime.NumGoroutine") = false) (hbody : fn.body.isSome = true) (hw : WpF S 0 f vs [] fun v _ => v = .bool true) :
    Calls P f args W fun e W' => e = .returned (.bool true) ∧ Below W.heap.size W W' := by
  obtain ⟨n, v, h', e, rfl⟩ := hw
  have h1 := (hcall n).runs 0 f vs [] _ _ e (Nat.zero_le _) (start W) W args hgl (start_rel W) hargs
  unfold CallsF at h1
  have henter : (callFunc f args).run P W = .ok (.enter f args) W := by
    have hname' : ¬ fn.name = "runtime.NumGoroutine" := by simpa using hname
    obtain ⟨b, hb⟩ := Option.isSome_iff_exists.1 hbody
    simp [callFunc, hf, hname', hb]
  rw [henter] at h1
  refine h1.mono fun ee W' hq => ?_
  cases ee with
  | returned rv =>
    obtain ⟨G', hreach, hv⟩ := hq
    exact ⟨by rw [hv.sc_inv], hreach.below.bel⟩
  | panicked c => exact hq.elim
  | outgrown => exact hq.elim
end
end
section
section
variable {P : Program} {W : World}
def absLit {H : Type} : DataW H → Option V
  | .lit (.bool b) => some (.sc (.bool b))
  | .lit (.int k n) => some (.sc (.int k n))
  | .lit (.string l) => some (.sc (.string ⟨l.toArray⟩))
  | _ => none
def absLits {H : Type} : List (DataW H) → Option (List V)
  | [] => some []
  | d :: r => (absLit d).bind fun v => (absLits r).map (v :: ·)
def absTab {H : Type} : DataW H → Option (List V)
  | .agg l => absLits l
  | _ => none
theorem absLits_get {H : Type} : ∀ {ds : List (DataW H)} {vs : List V}, absLits ds = some vs → vs.length = ds.length ∧ ∀ (i : Nat) d, ds[i]? = some d → ∃ v, vs[i]? = some v ∧ absLit d = some v
  | [], vs, h => by simp only [absLits, Option.some.injEq] at h; subst h; simp
  | d :: ds, vs, h => by
    simp only [absLits, Option.bind_eq_some_iff, Option.map_eq_some_iff] at h
    obtain ⟨v, h1, us, h2, rfl⟩ := h
    obtain ⟨q1, q2⟩ := absLits_get h2
    refine ⟨by simp [q1], fun i d' hi => ?_⟩
    cases i with
    | zero => simp at hi; subst hi; exact ⟨v, by simp, h1⟩
    | succ i => obtain ⟨u, h3, h4⟩ := q2 i d' (by simpa using hi); exact ⟨u, by simpa using h3, h4⟩
theorem lit_rep {H : Type} {enc : TypeId × Value → H} {base : Nat} {sp : Nat → Bool} {held : Bool} {fuel : Nat} {t : TypeId} {c : Value} {d : DataW H} {p : List MemPlace} {v : V} (h : DataW.trod enc P W base sp held fuel t [c] = some (d, p)) (hv : absLit d = some v) :
    ground v = true ∧ RepV (start W) v c := by
  have one : ∀ (l : Lit), d = .lit l → (∃ b, l = .bool b ∧ c = .bool b) ∨ (∃ k n, l = .int k n ∧ c = .int k n) ∨ (∃ s : ByteArray, l = .string s.data.toList ∧ c = .string s) ∨ (∀ v, absLit d ≠ some v) := by
    rintro l rfl
    cases fuel with
    | zero => simp [DataW.trod] at h
    | succ fuel =>
      unfold DataW.trod at h
      split at h
      all_goals try (exfalso; simp at h; done)
      · rename_i b _ e
        simp only [Option.some.injEq, Prod.mk.injEq, DataW.lit.injEq] at h
        simp only [List.cons.injEq, and_true] at e
        exact .inl ⟨b, h.1.symm, e⟩
      · rename_i k k' n _ e
        split at h
        · rename_i hc
          simp only [Option.some.injEq, Prod.mk.injEq, DataW.lit.injEq] at h
          simp only [List.cons.injEq, and_true] at e
          exact .inr (.inl ⟨_, n, h.1.symm, by rw [e, hc.1]⟩)
        · simp at h
      · split at h
        · simp only [Option.some.injEq, Prod.mk.injEq, DataW.lit.injEq] at h
          refine .inr (.inr (.inr fun v => ?_))
          rw [← h.1]
          simp [absLit]
        · simp at h
      · rename_i s _ e
        split at h
        · simp only [Option.some.injEq, Prod.mk.injEq, DataW.lit.injEq] at h
          simp only [List.cons.injEq, and_true] at e
          exact .inr (.inr (.inl ⟨s, h.1.symm, e⟩))
        · simp at h
      all_goals
        exfalso
        repeat' first
          | (simp at h; done)
          | split at h
          | (simp only [Option.bind_eq_some_iff, Option.map_eq_some_iff, Prod.mk.injEq] at h; obtain ⟨_, _, h⟩ := h)
          | skip
  unfold absLit at hv
  split at hv
  · rename_i b
    injection hv with hv
    subst hv
    rcases one _ rfl with ⟨b', h1, rfl⟩ | ⟨k, n, h1, _⟩ | ⟨s, h1, _⟩ | h1
    · injection h1 with h1; subst h1; simp [ground, RepV, Value.oneCell']
    · simp at h1
    · simp at h1
    · exact absurd rfl (h1 _)
  · rename_i k n
    injection hv with hv
    subst hv
    rcases one _ rfl with ⟨b', h1, _⟩ | ⟨k', n', h1, rfl⟩ | ⟨s, h1, _⟩ | h1
    · simp at h1
    · injection h1 with h1 h2; subst h1; subst h2; simp [ground, RepV, Value.oneCell']
    · simp at h1
    · exact absurd rfl (h1 _)
  · rename_i l
    injection hv with hv
    subst hv
    rcases one _ rfl with ⟨b', h1, _⟩ | ⟨k', n', h1, _⟩ | ⟨s, h1, rfl⟩ | h1
    · simp at h1
    · simp at h1
    · injection h1 with h1; subst h1; simp [ground, RepV, Value.oneCell']
    · exact absurd rfl (h1 _)
  · simp at hv
theorem tab_rep {H : Type} {enc : TypeId × Value → H} {base : Nat} {sp : Nat → Bool} {held : Bool} {fuel : Nat} {t e : TypeId} {n : Nat} {cs : List Value} {d : DataW H} {p : List MemPlace} {vs : List V}
    (ht : P.underlying t = some (.array n e)) (hce : P.cellsOf e = 1) (hct : P.cellsOf t = n) (h : DataW.trod enc P W base sp held fuel t cs = some (d, p)) (hv : absTab d = some vs) :
    vs.all ground = true ∧ RepL (start W) vs cs := by
  obtain ⟨xs, m, rfl, hx, hl, hn, hel⟩ := DataW.trod_array ht h
  simp only [Prod.mk.injEq] at hx
  obtain ⟨rfl, _⟩ := hx
  simp only [absTab] at hv
  obtain ⟨q1, q2⟩ := absLits_get hv
  have key : ∀ i, i < n → ∃ v c, vs[i]? = some v ∧ cs[i]? = some c ∧ ground v = true ∧ RepV (start W) v c := by
    intro i hi
    have h1 := hel i hi
    rw [List.getElem?_eq_getElem (by omega)] at h1
    have hc : (cs.drop (i * P.cellsOf e)).take (P.cellsOf e) = [cs[i]'(by omega)] := by
      rw [hce, Nat.mul_one]
      have : i < cs.length := by omega
      rw [List.drop_eq_getElem_cons this]
      rfl
    rw [hc] at h1
    obtain ⟨v, h2, h3⟩ := q2 i (xs[i]'(by omega)).1 (by simp [List.getElem?_eq_getElem (show i < xs.length by omega)])
    obtain ⟨h4, h5⟩ := lit_rep h1 h3
    exact ⟨v, _, h2, List.getElem?_eq_getElem (by omega), h4, h5⟩
  have hvl : vs.length = n := by simp [q1, hn]
  have hcl : cs.length = n := by omega
  clear hel q2 hv h
  refine ⟨?_, ?_⟩
  · rw [List.all_eq_true]
    intro v hv
    obtain ⟨i, hi⟩ := List.getElem?_of_mem hv
    obtain ⟨v', c, h1, _, h3, _⟩ := key i (by have := (List.getElem?_eq_some_iff.1 hi).1; omega)
    rw [hi] at h1
    injection h1 with h1
    rw [h1]
    exact h3
  · clear q1 hn hl ht hct
    induction n generalizing vs cs with
    | zero =>
      have h1 : vs = [] := List.eq_nil_of_length_eq_zero hvl
      have h2 : cs = [] := List.eq_nil_of_length_eq_zero hcl
      rw [h1, h2]
      simp [RepL]
    | succ n ih =>
      match vs, cs, hvl, hcl with
      | v :: vs, c :: cs, hvl, hcl =>
        simp only [RepL]
        obtain ⟨v', c', h1, h2, _, h4⟩ := key 0 (by omega)
        simp at h1 h2
        subst h1; subst h2
        refine ⟨c, cs, rfl, h4, ih (fun i hi => ?_) (by simpa using hvl) (by simpa using hcl)⟩
        obtain ⟨v', c', h5, h6, h7, h8⟩ := key (i + 1) (by omega)
        exact ⟨v', c', by simpa using h5, by simpa using h6, h7, h8⟩
theorem laid_mem {laid : List (String × DataW Unit)} {name : String} {d : DataW Unit} : ∀ {ps : List MemPlace}, DataW.LaidVars P W laid ps → (name, d) ∈ laid →
    ∃ g t cs fuel p, P.globalNamed name = some g ∧ (P.globals[g]?).map (·.type) = some t ∧ W.var? P name = some cs ∧ DataW.trod (fun _ => ()) P W 0 (fun _ => true) false fuel t cs.toList = some (d, p) := by
  induction laid with
  | nil => intro ps _ h; simp at h
  | cons x r ih =>
    intro ps h hm
    obtain ⟨n, d'⟩ := x
    obtain ⟨g, t, cs, fuel, p, q, h1, h2, h3, h4, h5, _⟩ := h
    rcases List.mem_cons.1 hm with hm | hm
    · injection hm with e1 e2
      subst e1; subst e2
      exact ⟨g, t, cs, fuel, p, h1, h2, h3, h4⟩
    · exact ih h5 hm
theorem glob_tab {laid : List (String × DataW Unit)} {name : String} {d : DataW Unit} {g : Nat} {t e : TypeId} {n : Nat} {vs : List V} (h : laidMet P laid W) (hm : (name, d) ∈ laid) (hg : P.globalNamed name = some g) (hty : (P.globals[g]?).map (·.type) = some t)
    (ht : P.underlying t = some (.array n e)) (hce : P.cellsOf e = 1) (hct : P.cellsOf t = n) (hv : absTab d = some vs) : RepV (start W) (.eptr vs 0) (.pointer (some ⟨g, 0, none⟩)) := by
  obtain ⟨ps, hl, _⟩ := h
  obtain ⟨g', t', cs, fuel, p, h1, h2, h3, h4⟩ := laid_mem hl hm
  obtain rfl := Option.some.inj (hg.symm.trans h1)
  obtain rfl := Option.some.inj (hty.symm.trans h2)
  obtain ⟨q1, q2⟩ := tab_rep ht hce hct h4 hv
  simp only [RepV]
  refine ⟨g, 0, rfl, q1, repF_start q2 fun j c hj => ?_⟩
  rw [World.var?_cell hg h3 (0 + j), Nat.zero_add, ← Array.getElem?_toList]
  exact hj
theorem glob_opq {laid : List (String × DataW Unit)} {name : String} {d : DataW Unit} {g : Nat} {t : TypeId} {ms : Array (String × TypeId)} (h : laidMet P laid W) (hm : (name, d) ∈ laid) (hg : P.globalNamed name = some g) (hty : (P.globals[g]?).map (·.type) = some t)
    (ht : P.underlying t = some (.interface ms)) : RepV (start W) (.eptr [.opq] 0) (.pointer (some ⟨g, 0, none⟩)) := by
  obtain ⟨ps, hl, _⟩ := h
  obtain ⟨g', t', cs, fuel, p, h1, h2, h3, h4⟩ := laid_mem hl hm
  obtain rfl := Option.some.inj (hg.symm.trans h1)
  obtain rfl := Option.some.inj (hty.symm.trans h2)
  have hc : ∃ c, cs.toList = [c] ∧ c.oneCell' = true := by
    cases fuel with
    | zero => simp [DataW.trod] at h4
    | succ fuel =>
      unfold DataW.trod at h4
      rw [ht] at h4
      split at h4
      all_goals try (exfalso; simp_all; done)
      · rename_i e; exact ⟨_, e, rfl⟩
      · rename_i e; exact ⟨_, e, rfl⟩
  obtain ⟨c, hc, h1c⟩ := hc
  simp only [RepV]
  refine ⟨g, 0, rfl, rfl, ?_⟩
  simp only [RepF, and_true]
  refine ⟨c, ?_, by simp only [RepV]; exact h1c⟩
  show W.cell? ⟨g, 0, none⟩ = some c
  rw [World.var?_cell hg h3 0, ← Array.getElem?_toList, hc]
  rfl
end
end
section
abbrev iv (n : Int) : List V := [.sc (.int .i64 n)]
theorem put_app (en : Env) (t x : Nat) (v : V) : (en.put (some t) v) x = if x = t then v else en x := rfl
theorem put_none (en : Env) (v : V) : en.put none v = en := rfl
theorem int_beq (a b : Int) : (a == b) = decide (a = b) := by
  by_cases h : a = b
  · simp [h]
  · simp [h]
theorem int_bne (a b : Int) : (a != b) = !decide (a = b) := by
  by_cases h : a = b
  · simp [h]
  · simp [h]
theorem wrap_i64 {n : Int} (h0 : -9223372036854775808 ≤ n) (h1 : n ≤ 9223372036854775807) : IntKind.wrap .i64 n = n := by
  simp [IntKind.wrap, IntKind.signed, IntKind.bits]
  omega
section
variable {S : Fns} {base : Nat}
theorem WpC_skip {en : Env} {h : Heap} {Q : Ex → Env → Heap → Prop} : WpC S base .skip en h Q ↔ Q .normal en h := by
  refine ⟨?_, WpC.skip⟩
  rintro ⟨n, ex, en', h', e, q⟩
  simp only [evC, Option.some.injEq, Prod.mk.injEq] at e
  obtain ⟨rfl, rfl, rfl⟩ := e
  exact q
theorem WpC_ret {en : Env} {h : Heap} {Q : Ex → Env → Heap → Prop} : WpC S base .ret en h Q ↔ Q .ret en h := by
  refine ⟨?_, WpC.ret⟩
  rintro ⟨n, ex, en', h', e, q⟩
  simp only [evC, Option.some.injEq, Prod.mk.injEq] at e
  obtain ⟨rfl, rfl, rfl⟩ := e
  exact q
theorem WpC_exit {id : Nat} {en : Env} {h : Heap} {Q : Ex → Env → Heap → Prop} : WpC S base (.exit id) en h Q ↔ Q (.exit id) en h := by
  refine ⟨?_, WpC.exit⟩
  rintro ⟨n, ex, en', h', e, q⟩
  simp only [evC, Option.some.injEq, Prod.mk.injEq] at e
  obtain ⟨rfl, rfl, rfl⟩ := e
  exact q
theorem WpC_region {ops : List AOper} {en : Env} {h : Heap} {Q : Ex → Env → Heap → Prop} : WpC S base (.region ops) en h Q ↔ WpO S base ops en h (Q .normal) := by
  refine ⟨?_, WpC.region⟩
  rintro ⟨n, ex, en', h', e, q⟩
  unfold evC at e
  split at e
  · rename_i en1 h1 e1
    simp only [Option.some.injEq, Prod.mk.injEq] at e
    obtain ⟨rfl, rfl, rfl⟩ := e
    exact ⟨n, _, _, e1, q⟩
  · simp at e
theorem WpC_seq {a b : ACode} {en : Env} {h : Heap} {Q : Ex → Env → Heap → Prop} : WpC S base (.seq a b) en h Q ↔ WpC S base a en h (thenQ (fun en h => WpC S base b en h Q) Q) := by
  refine ⟨?_, WpC.seq⟩
  rintro ⟨n, ex, en', h', e, q⟩
  unfold evC at e
  split at e
  · rename_i en1 h1 e1
    exact ⟨n, _, _, _, e1, n, _, _, _, e, q⟩
  · rename_i hne
    refine ⟨n, _, _, _, e, ?_⟩
    cases ex with
    | normal => exact absurd e (hne en' h')
    | exit id => exact q
    | ret => exact q
theorem WpC_block {id : Nat} {c : ACode} {en : Env} {h : Heap} {Q : Ex → Env → Heap → Prop} : WpC S base (.block id c) en h Q ↔ WpC S base c en h (blockQ id Q) := by
  refine ⟨?_, WpC.block⟩
  rintro ⟨n, ex, en', h', e, q⟩
  unfold evC at e
  split at e
  · rename_i i en1 h1 e1
    refine ⟨n, _, _, _, e1, ?_⟩
    split at e
    · rename_i hi
      simp only [Option.some.injEq, Prod.mk.injEq] at e
      obtain ⟨rfl, rfl, rfl⟩ := e
      simpa [blockQ, hi] using q
    · rename_i hi
      simp only [Option.some.injEq, Prod.mk.injEq] at e
      obtain ⟨rfl, rfl, rfl⟩ := e
      simpa [blockQ, hi] using q
  · rename_i hne
    refine ⟨n, _, _, _, e, ?_⟩
    cases ex with
    | exit i => exact absurd e (hne i en' h')
    | normal => exact q
    | ret => exact q
theorem WpC_condI {c : Opd} {a b : ACode} {en : Env} {h : Heap} {Q : Ex → Env → Heap → Prop} : WpC S base (.cond c a b) en h Q ↔ boolQ (c.get en) fun t => if t = true then WpC S base a en h Q else WpC S base b en h Q := by
  refine ⟨?_, WpC_cond⟩
  rintro ⟨n, ex, en', h', e, q⟩
  unfold evC at e
  split at e
  · rename_i t et
    rw [et, boolQ_bool]
    split at e
    · rename_i ht
      rw [if_pos ht]
      exact ⟨n, _, _, _, e, q⟩
    · rename_i ht
      rw [if_neg ht]
      exact ⟨n, _, _, _, e, q⟩
  · simp at e
theorem thenQ_normal {K : Env → Heap → Prop} {Q : Ex → Env → Heap → Prop} {en : Env} {h : Heap} : thenQ K Q .normal en h = K en h := rfl
theorem thenQ_ret {K : Env → Heap → Prop} {Q : Ex → Env → Heap → Prop} {en : Env} {h : Heap} : thenQ K Q .ret en h = Q .ret en h := rfl
theorem thenQ_exit {K : Env → Heap → Prop} {Q : Ex → Env → Heap → Prop} {en : Env} {h : Heap} {i : Nat} : thenQ K Q (.exit i) en h = Q (.exit i) en h := rfl
theorem blockQ_normal {id : Nat} {Q : Ex → Env → Heap → Prop} {en : Env} {h : Heap} : blockQ id Q .normal en h = Q .normal en h := rfl
theorem blockQ_ret {id : Nat} {Q : Ex → Env → Heap → Prop} {en : Env} {h : Heap} : blockQ id Q .ret en h = Q .ret en h := rfl
theorem blockQ_exit {id i : Nat} {Q : Ex → Env → Heap → Prop} {en : Env} {h : Heap} : blockQ id Q (.exit i) en h = if i = id then Q .normal en h else Q (.exit i) en h := by
  simp only [blockQ]
  split <;> rfl
theorem WpF_iff {f : FuncId} {args : List V} {h h0 : Heap} {v0 : V} (hw : WpF S base f args h fun v h' => v = v0 ∧ h' = h0) {Q : V → Heap → Prop} : WpF S base f args h Q ↔ Q v0 h0 := by
  constructor
  · rintro ⟨n, v, h', e, q⟩
    obtain ⟨m, v2, h2, e2, rfl, rfl⟩ := hw
    have a := evCall_mono (X := S.X) (F := S.F) (Nat.le_max_left n m) _ _ _ _ _ e
    have b := evCall_mono (X := S.X) (F := S.F) (Nat.le_max_right n m) _ _ _ _ _ e2
    rw [a] at b
    injection b with b
    injection b with b1 b2
    subst b1; subst b2
    exact q
  · intro q
    exact hw.mono fun v h' ⟨e1, e2⟩ => by subst e1; subst e2; exact q
theorem WpC_loopI {c : ACode} {Q : Ex → Env → Heap → Prop} {en : Env} {h : Heap} (I : Nat → Env → Heap → Prop) (k : Nat) (hi : I k en h) (hstep : ∀ k en h, I k en h → WpC S base c en h (thenQ (fun en' h' => ∃ j, j < k ∧ I j en' h') Q)) :
    WpC S base (.loop c) en h Q := WpC.loopInv I hstep k en h hi
def Frz (h : Heap) (b : Nat) (v : V) (Q : V → Prop) : Prop := ∃ n v', freezeV h b n v = some v' ∧ Q v'
def FrzL (h : Heap) (b : Nat) (v : List V) (Q : List V → Prop) : Prop := ∃ n v', freezeVs h b n v = some v' ∧ Q v'
variable {h : Heap} {b : Nat}
theorem Frz_sc {v : Value} {Q : V → Prop} (q : Q (.sc v)) : Frz h b (.sc v) Q := ⟨1, _, rfl, q⟩
theorem Frz_slc {ex : Cp} {sz : Nat} {rs : List (List V)} {Q : V → Prop} (q : Q (.slc ex sz rs)) : Frz h b (.slc ex sz rs) Q := ⟨1, _, rfl, q⟩
theorem Frz_undef {Q : V → Prop} (q : Q .undef) : Frz h b .undef Q := ⟨1, _, rfl, q⟩
theorem FrzL_nil {Q : List V → Prop} (q : Q []) : FrzL h b [] Q := ⟨1, _, rfl, q⟩
theorem FrzL_cons {v : V} {vs : List V} {Q : List V → Prop} (q : Frz h b v fun v' => FrzL h b vs fun vs' => Q (v' :: vs')) : FrzL h b (v :: vs) Q := by
  obtain ⟨n, v', e1, m, vs', e2, q⟩ := q
  refine ⟨max n m + 1, v' :: vs', ?_, q⟩
  simp only [freezeVs, freezeV_mono (Nat.le_max_left n m) e1, freezeVs_mono (Nat.le_max_right n m) e2, Option.bind_some, Option.map_some]
theorem Frz_tup {vs : List V} {Q : V → Prop} (q : FrzL h b vs fun vs' => Q (.tup vs')) : Frz h b (.tup vs) Q := by
  obtain ⟨n, vs', e, q⟩ := q
  exact ⟨n + 1, _, by simp only [freezeV, e, Option.map_some], q⟩
theorem Frz_agg {vs : List V} {Q : V → Prop} (q : FrzL h b vs fun vs' => Q (.agg vs')) : Frz h b (.agg vs) Q := by
  obtain ⟨n, vs', e, q⟩ := q
  exact ⟨n + 1, _, by simp only [freezeV, e, Option.map_some], q⟩
theorem freezeV_det {n m : Nat} {v a c : V} (e : freezeV h b n v = some a) (e2 : freezeV h b m v = some c) : a = c := by
  have q1 := freezeV_mono (Nat.le_max_left n m) e
  have q2 := freezeV_mono (Nat.le_max_right n m) e2
  rw [q1] at q2
  exact Option.some.inj q2
theorem freezeVs_det {n m : Nat} {v a c : List V} (e : freezeVs h b n v = some a) (e2 : freezeVs h b m v = some c) : a = c := by
  have q1 := freezeVs_mono (Nat.le_max_left n m) e
  have q2 := freezeVs_mono (Nat.le_max_right n m) e2
  rw [q1] at q2
  exact Option.some.inj q2
theorem Frz_sci {v : Value} {Q : V → Prop} : Frz h b (.sc v) Q ↔ Q (.sc v) := ⟨fun ⟨_, _, e, q⟩ => freezeV_det (m := 1) e rfl ▸ q, Frz_sc⟩
theorem Frz_slci {ex : Cp} {sz : Nat} {rs : List (List V)} {Q : V → Prop} : Frz h b (.slc ex sz rs) Q ↔ Q (.slc ex sz rs) := ⟨fun ⟨_, _, e, q⟩ => freezeV_det (m := 1) e rfl ▸ q, Frz_slc⟩
theorem FrzL_nili {Q : List V → Prop} : FrzL h b [] Q ↔ Q [] := ⟨fun ⟨_, _, e, q⟩ => freezeVs_det (m := 1) e rfl ▸ q, FrzL_nil⟩
theorem FrzL_consi {v : V} {vs : List V} {Q : List V → Prop} : FrzL h b (v :: vs) Q ↔ Frz h b v fun v' => FrzL h b vs fun vs' => Q (v' :: vs') := by
  refine ⟨?_, FrzL_cons⟩
  rintro ⟨n, r, e, q⟩
  cases n with
  | zero => simp [freezeVs] at e
  | succ n =>
    simp only [freezeVs, Option.bind_eq_some_iff, Option.map_eq_some_iff] at e
    obtain ⟨a, e1, c, e2, rfl⟩ := e
    exact ⟨n, a, e1, n, c, e2, q⟩
theorem Frz_tupi {vs : List V} {Q : V → Prop} : Frz h b (.tup vs) Q ↔ FrzL h b vs fun vs' => Q (.tup vs') := by
  refine ⟨?_, Frz_tup⟩
  rintro ⟨n, r, e, q⟩
  cases n with
  | zero => simp [freezeV] at e
  | succ n =>
    simp only [freezeV, Option.map_eq_some_iff] at e
    obtain ⟨a, e1, rfl⟩ := e
    exact ⟨n, a, e1, q⟩
theorem Frz_aggi {vs : List V} {Q : V → Prop} : Frz h b (.agg vs) Q ↔ FrzL h b vs fun vs' => Q (.agg vs') := by
  refine ⟨?_, Frz_agg⟩
  rintro ⟨n, r, e, q⟩
  cases n with
  | zero => simp [freezeV] at e
  | succ n =>
    simp only [freezeV, Option.map_eq_some_iff] at e
    obtain ⟨a, e1, rfl⟩ := e
    exact ⟨n, a, e1, q⟩
def endP (rs : List ARes) (b : Nat) (Q : V → Heap → Prop) (ex : Ex) (en : Env) (h : Heap) : Prop :=
  match ex with
  | .exit _ => False
  | _ => match ze en h rs with
    | some vs => Frz h b (za vs) fun v => Q v (h.take b)
    | none => False
def endI (rs : List ARes) (Q : V → Heap → Prop) (ex : Ex) (en : Env) (h : Heap) : Prop :=
  match ex with
  | .exit _ => False
  | _ => match ze en h rs with
    | some vs => Q (za vs) h
    | none => False
def resQ (o : Option (List V)) (Q : List V → Prop) : Prop := match o with | some vs => Q vs | none => False
theorem resQ_some {vs : List V} {Q : List V → Prop} : resQ (some vs) Q = Q vs := rfl
theorem endP_ret {rs : List ARes} {Q : V → Heap → Prop} {en : Env} : endP rs b Q .ret en h = resQ (ze en h rs) fun vs => Frz h b (za vs) fun v => Q v (h.take b) := rfl
theorem endP_normal {rs : List ARes} {Q : V → Heap → Prop} {en : Env} : endP rs b Q .normal en h = resQ (ze en h rs) fun vs => Frz h b (za vs) fun v => Q v (h.take b) := rfl
theorem endI_ret {rs : List ARes} {Q : V → Heap → Prop} {en : Env} : endI rs Q .ret en h = resQ (ze en h rs) fun vs => Q (za vs) h := rfl
theorem endI_normal {rs : List ARes} {Q : V → Heap → Prop} {en : Env} : endI rs Q .normal en h = resQ (ze en h rs) fun vs => Q (za vs) h := rfl
theorem zu {f : FuncId} {A : AFunc} {args : List V} {Q : V → Heap → Prop} (hX : S.X f = none) (hF : S.F f = some A) (hp : A.pure = true) (hl : args.length = A.nparams)
    (hw : WpC S h.length A.body (fun t => args.getD t .undef) h (endP A.results h.length Q)) : WpF S base f args h Q := by
  refine WpF.bodyPure hX hF hp hl (hw.mono ?_)
  intro ex en h' q
  unfold endP at q
  cases ex with
  | exit i => exact q.elim
  | normal =>
    simp only at q
    refine ⟨by simp, ?_⟩
    split at q
    · rename_i vs e
      obtain ⟨n, v', e2, q⟩ := q
      exact ⟨vs, e, n, v', e2, q⟩
    · exact q.elim
  | ret =>
    simp only at q
    refine ⟨by simp, ?_⟩
    split at q
    · rename_i vs e
      obtain ⟨n, v', e2, q⟩ := q
      exact ⟨vs, e, n, v', e2, q⟩
    · exact q.elim
theorem zB {f : FuncId} {A : AFunc} {args : List V} {Q : V → Heap → Prop} (hX : S.X f = none) (hF : S.F f = some A) (hp : A.pure = false) (hl : args.length = A.nparams)
    (hw : WpC S base A.body (fun t => args.getD t .undef) h (endI A.results Q)) : WpF S base f args h Q := by
  refine WpF.body hX hF hp hl (hw.mono ?_)
  intro ex en h' q
  unfold endI at q
  cases ex with
  | exit i => exact q.elim
  | normal =>
    simp only at q
    refine ⟨by simp, ?_⟩
    split at q
    · rename_i vs e
      exact ⟨vs, e, q⟩
    · exact q.elim
  | ret =>
    simp only at q
    refine ⟨by simp, ?_⟩
    split at q
    · rename_i vs e
      exact ⟨vs, e, q⟩
    · exact q.elim
def opQ (S : Fns) (base : Nat) (x : Option (V × Heap)) (dst : Option Nat) (r : List AOper) (en : Env) (Q : Env → Heap → Prop) : Prop :=
  match x with
  | some (v, h) => WpO S base r (en.put dst v) h Q
  | none => False
def guardQ (S : Fns) (base : Nat) (g : V) (want : Bool) (dst : Option Nat) (op : AOp) (r : List AOper) (en : Env) (h : Heap) (Q : Env → Heap → Prop) : Prop :=
  match gOk g want with
  | some true => WpO S base (⟨dst, op, none, []⟩ :: r) en h Q
  | some false => WpO S base r (en.put dst (.tup [])) h Q
  | none => False
def callD (S : Fns) (base : Nat) (t : Option (FuncId × List V)) (dst : Option Nat) (r : List AOper) (en : Env) (h : Heap) (Q : Env → Heap → Prop) : Prop :=
  match t with
  | some (k, vs) => WpF S base k vs h fun v h1 => WpO S base r (en.put dst v) h1 Q
  | none => False
def thenC (S : Fns) (base : Nat) (b : ACode) (Q : Ex → Env → Heap → Prop) (ex : Ex) (en : Env) (h : Heap) : Prop :=
  match ex with
  | .normal => WpC S base b en h Q
  | ex => Q ex en h
def condQ (S : Fns) (base : Nat) (c : V) (a b : ACode) (en : Env) (h : Heap) (Q : Ex → Env → Heap → Prop) : Prop :=
  match c with
  | .sc (.bool t) => if t = true then WpC S base a en h Q else WpC S base b en h Q
  | _ => False
section
variable {x : Option (V × Heap)} {dst : Option Nat} {r : List AOper} {en : Env} {Q : Env → Heap → Prop} {h : Heap} {v : V}
theorem opQ_some : opQ S base (some (v, h)) dst r en Q = WpO S base r (en.put dst v) h Q := rfl
theorem opQ_none : opQ S base none dst r en Q = False := rfl
theorem WpO_opD {op : AOp} (hn : (∀ f a, op ≠ .call f a) ∧ ∀ f a t, op ≠ .callK f a t) : WpO S base (⟨dst, op, none, []⟩ :: r) en h Q ↔ opQ S base (step base en h op) dst r en Q := by
  rw [WpO_op hn]
  unfold okQ opQ
  rfl
theorem guardQ_tt {op : AOp} : guardQ S base (.sc (.bool true)) true dst op r en h Q = WpO S base (⟨dst, op, none, []⟩ :: r) en h Q := rfl
theorem guardQ_ff {op : AOp} : guardQ S base (.sc (.bool false)) false dst op r en h Q = WpO S base (⟨dst, op, none, []⟩ :: r) en h Q := rfl
theorem guardQ_tf {op : AOp} : guardQ S base (.sc (.bool true)) false dst op r en h Q = WpO S base r (en.put dst (.tup [])) h Q := rfl
theorem guardQ_ft {op : AOp} : guardQ S base (.sc (.bool false)) true dst op r en h Q = WpO S base r (en.put dst (.tup [])) h Q := rfl
theorem guardQ_no {op : AOp} {want : Bool} : guardQ S base (.tup []) want dst op r en h Q = WpO S base r (en.put dst (.tup [])) h Q := rfl
theorem guardQ_b {op : AOp} {t want : Bool} : guardQ S base (.sc (.bool t)) want dst op r en h Q = if t = want then WpO S base (⟨dst, op, none, []⟩ :: r) en h Q else WpO S base r (en.put dst (.tup [])) h Q := by
  cases t <;> cases want <;> rfl
theorem WpO_guardD {op : AOp} {g : Nat} {want : Bool} : WpO S base (⟨dst, op, some (g, want), []⟩ :: r) en h Q ↔ guardQ S base (en g) want dst op r en h Q := by
  rw [WpO_guard]
  rfl
theorem callD_some {k : FuncId} {vs : List V} : callD S base (some (k, vs)) dst r en h Q = WpF S base k vs h fun v h1 => WpO S base r (en.put dst v) h1 Q := rfl
theorem WpO_callD {f : Opd} {args : List Opd} : WpO S base (⟨dst, .call f args, none, []⟩ :: r) en h Q ↔ callD S base (zr (f.get en) (zh en args)) dst r en h Q := by
  rw [WpO_call]
  unfold callQ callD
  rfl
theorem zn {k : FuncId} {vs : List V} {h0 : Heap} {v0 : V} (hw : WpF S base k vs h fun v h' => v = v0 ∧ h' = h0) : callD S base (some (k, vs)) dst r en h Q ↔ WpO S base r (en.put dst v0) h0 Q := WpF_iff hw
end
section
variable {a b : ACode} {en : Env} {h : Heap} {Q : Ex → Env → Heap → Prop}
theorem thenC_normal : thenC S base b Q .normal en h = WpC S base b en h Q := rfl
theorem thenC_ret : thenC S base b Q .ret en h = Q .ret en h := rfl
theorem thenC_exit {i : Nat} : thenC S base b Q (.exit i) en h = Q (.exit i) en h := rfl
theorem WpC_seqD : WpC S base (.seq a b) en h Q ↔ WpC S base a en h (thenC S base b Q) := WpC_seq.trans (by
  have : thenQ (fun en h => WpC S base b en h Q) Q = thenC S base b Q := by
    funext ex en h
    cases ex <;> rfl
  rw [this])
theorem condQ_true : condQ S base (.sc (.bool true)) a b en h Q = WpC S base a en h Q := rfl
theorem condQ_false : condQ S base (.sc (.bool false)) a b en h Q = WpC S base b en h Q := rfl
theorem condQ_bool {t : Bool} : condQ S base (.sc (.bool t)) a b en h Q = if t = true then WpC S base a en h Q else WpC S base b en h Q := rfl
theorem WpC_condD {c : Opd} : WpC S base (.cond c a b) en h Q ↔ condQ S base (c.get en) a b en h Q := by
  rw [WpC_condI]
  unfold boolQ condQ
  rfl
end
end
section
variable {S : Fns} {base : Nat}
theorem WpO_keepD {dst : Option Nat} {op : AOp} {t : Nat} {ts : List Nat} {r : List AOper} {en : Env} {h : Heap} {Q : Env → Heap → Prop} : WpO S base (⟨dst, op, none, t :: ts⟩ :: r) en h Q ↔ if offOk en ⟨dst, op, none, t :: ts⟩ = true then WpO S base (⟨dst, op, none, []⟩ :: r) en h Q else False := by
  by_cases ho : offOk en ⟨dst, op, none, t :: ts⟩ = true
  · rw [if_pos ho]
    refine ⟨?_, WpO.keep ho⟩
    rintro ⟨n, en', h', e, q⟩
    refine ⟨n, en', h', ?_, q⟩
    rw [evOps_cons] at e ⊢
    have hev : evOper (evCall S.X S.F n) base en h ⟨dst, op, none, t :: ts⟩ = evOper (evCall S.X S.F n) base en h ⟨dst, op, none, []⟩ := by
      unfold evOper
      rw [ho]
      rfl
    have : evVal (evCall S.X S.F n) base ⟨dst, op, none, t :: ts⟩ en h = evVal (evCall S.X S.F n) base ⟨dst, op, none, []⟩ en h := by
      simp only [evVal, hev]
    rw [← this]
    exact e
  · rw [if_neg ho, iff_false]
    rintro ⟨n, en', h', e, q⟩
    rw [evOps_cons] at e
    have : evVal (evCall S.X S.F n) base ⟨dst, op, none, t :: ts⟩ en h = none := by
      simp only [evVal, evOper, ho, Bool.false_eq_true, if_false]
    rw [this] at e
    simp at e
theorem WpF.ex {α : Type} {k : FuncId} {vs : List V} {h : Heap} {P : α → V → Heap → Prop} (hw : WpF S base k vs h fun v h' => ∃ a, P a v h') : ∃ a, WpF S base k vs h (P a) :=
  let ⟨n, v, h', e, a, p⟩ := hw
  ⟨a, n, v, h', e, p⟩
end
def blkNe (v : V) (b : Nat) : Bool := blockOf v != some b
def offV (v : V) (l : List Opd) (en : Env) : Bool := match blockOf v with | some b => l.all fun x => blkNe (x.get en) b | none => false
theorem WpO_keep1 {S : Fns} {base : Nat} {dst : Option Nat} {op : AOp} {t : Nat} {r : List AOper} {en : Env} {h : Heap} {Q : Env → Heap → Prop} : WpO S base (⟨dst, op, none, [t]⟩ :: r) en h Q ↔ if offV (en t) op.opds en = true then WpO S base (⟨dst, op, none, []⟩ :: r) en h Q else False := by
  rw [WpO_keepD]
  have : offOk en ⟨dst, op, none, [t]⟩ = offV (en t) op.opds en := by
    simp only [offOk, List.all_cons, List.all_nil, Bool.and_true]
    rfl
  rw [this]
theorem offV_ptr {b o : Nat} {x : Opd} {l : List Opd} {en : Env} : offV (.ptr b o) (x :: l) en = (blkNe (x.get en) b && offV (.ptr b o) l en) := rfl
theorem offV_nil {b o : Nat} {en : Env} : offV (.ptr b o) [] en = true := rfl
theorem blkNe_ptr {b c o : Nat} : blkNe (.ptr c o) b = (c != b) := rfl
theorem blkNe_sc {b : Nat} {v : Value} : blkNe (.sc v) b = true := rfl
theorem blkNe_slc {b sz : Nat} {ex : Cp} {rs : List (List V)} : blkNe (.slc ex sz rs) b = true := rfl
theorem blkNe_eptr {b o : Nat} {cs : List V} : blkNe (.eptr cs o) b = true := rfl
theorem blkNe_agg {b : Nat} {cs : List V} : blkNe (.agg cs) b = true := rfl
theorem blkNe_hsl {b c e off len : Nat} : blkNe (.hsl c e off len) b = (c != b) := rfl
theorem Frz_ifci {h : Heap} {b : Nat} {t : TypeId} {v : Value} {Q : V → Prop} : Frz h b (.ifc t (.sc v)) Q ↔ Q (.ifc t (.sc v)) := ⟨fun ⟨_, _, e, q⟩ => freezeV_det (m := 1) e rfl ▸ q, fun q => ⟨1, _, rfl, q⟩⟩
theorem last_get (h : Heap) (o : Obj) : (h ++ [o])[h.length]? = some o := by simp
theorem last_set (h : Heap) (o p : Obj) : (h ++ [o]).set h.length p = h ++ [p] := by simp
theorem last_take (h l : Heap) : (h ++ l).take h.length = h := by simp
theorem store_box {base b off n : Nat} {h : Heap} {t : TypeId} {cs : List V} {x : V} (hb : h[b]? = some (.box t cs)) (hx : x.cells.length = n) (h1 : x.cells.all zm = true) (ho : off + n ≤ cs.length) (hm : mayStore base b x.cells = true) :
    storeV base h n (.ptr b off) x = some (h.set b (.box t (putCells cs off x.cells))) := by
  unfold storeV
  simp only [hx, h1, and_self, if_true, hb, ho, hm]
end
section
section
variable {S : Fns} {base : Nat}
theorem WpO_append {p r : List AOper} {en : Env} {h : Heap} {Q : Env → Heap → Prop} (hw : WpO S base p en h fun en' h' => WpO S base r en' h' Q) : WpO S base (p ++ r) en h Q := by
  obtain ⟨n, en1, h1, e1, m, en2, h2, e2, q⟩ := hw
  refine ⟨max n m, en2, h2, ?_, q⟩
  rw [evOps_append, evOps_mono (evCall_mono (Nat.le_max_left n m)) e1]
  exact evOps_mono (evCall_mono (Nat.le_max_right n m)) e2
theorem WpO_mono {p : List AOper} {en : Env} {h : Heap} {Q R : Env → Heap → Prop} (hw : WpO S base p en h Q) (hq : ∀ en h, Q en h → R en h) : WpO S base p en h R :=
  let ⟨n, en', h', e, q⟩ := hw; ⟨n, en', h', e, hq _ _ q⟩
theorem WpO_cut (n : Nat) {ops : List AOper} {en : Env} {h : Heap} {Q : Env → Heap → Prop} (P : Env → Heap → Prop) (h1 : WpO S base (ops.take n) en h P) (h2 : ∀ en' h', P en' h' → WpO S base (ops.drop n) en' h' Q) : WpO S base ops en h Q := by
  rw [← List.take_append_drop n ops]
  exact WpO_append (WpO_mono h1 h2)
theorem WpC_mono {c : ACode} {en : Env} {h : Heap} {Q R : Ex → Env → Heap → Prop} (hw : WpC S base c en h Q) (hq : ∀ ex en h, Q ex en h → R ex en h) : WpC S base c en h R :=
  let ⟨n, ex, en', h', e, q⟩ := hw; ⟨n, ex, en', h', e, hq _ _ _ q⟩
theorem zw {a b : ACode} {en : Env} {h : Heap} {Q : Ex → Env → Heap → Prop} (P : Env → Heap → Prop) (h1 : WpC S base a en h fun ex en' h' => ex = .normal ∧ P en' h') (h2 : ∀ en' h', P en' h' → WpC S base b en' h' Q) : WpC S base (.seq a b) en h Q := by
  rw [WpC_seqD]
  refine WpC_mono h1 ?_
  rintro ex en' h' ⟨rfl, hp⟩
  exact h2 en' h' hp
end
theorem all_ground {l : List V} : (l.all ground && (none : Option Nat).all fun k => l.length == k) = l.all ground := by simp
theorem ground_sc {v : Value} : ground (.sc v) = true := rfl
theorem ground_slc {ex : Cp} {sz : Nat} {rs : List (List V)} : ground (.slc ex sz rs) = true := rfl
theorem WpC_loopU {S : Fns} {base : Nat} {c : ACode} {en : Env} {h : Heap} {Q : Ex → Env → Heap → Prop} : WpC S base (.loop c) en h Q ↔ WpC S base c en h (thenC S base (.loop c) Q) := by
  constructor
  · rintro ⟨n, ex, en', h', e, q⟩
    simp only [evC] at e
    cases n with
    | zero => simp [iter] at e
    | succ n =>
      unfold iter at e
      split at e
      · rename_i en1 h1 e1
        refine ⟨n + 1, .normal, en1, h1, e1, n + 1, ex, en', h', ?_, q⟩
        simp only [evC]
        exact iter_mono (fun _ _ _ x => x) (Nat.le_succ n) e
      · rename_i hno
        refine ⟨n + 1, ex, en', h', e, ?_⟩
        cases ex with
        | normal => exact absurd e (hno _ _)
        | exit i => exact q
        | ret => exact q
  · rintro ⟨n, ex, en1, h1, e, q⟩
    cases ex with
    | normal =>
      obtain ⟨m, ex, en', h', e2, q⟩ := q
      simp only [evC] at e2
      refine ⟨max n m + 1, ex, en', h', ?_, q⟩
      simp only [evC]
      unfold iter
      rw [evC_mono (evCall_mono (by omega)) (by omega : n ≤ max n m + 1) e]
      exact iter_mono (fun _ _ _ x => evC_mono (evCall_mono (by omega)) (by omega : m ≤ max n m + 1) x) (by omega) e2
    | exit i =>
      refine ⟨n + 1, .exit i, en1, h1, ?_, q⟩
      simp only [evC]
      unfold iter
      rw [evC_mono (evCall_mono (by omega)) (by omega : n ≤ n + 1) e]
    | ret =>
      refine ⟨n + 1, .ret, en1, h1, ?_, q⟩
      simp only [evC]
      unfold iter
      rw [evC_mono (evCall_mono (by omega)) (by omega : n ≤ n + 1) e]
end
section
section
variable {S : Fns} {base : Nat}
theorem condQ_c {t : Bool} {a b : ACode} {en : Env} {h : Heap} {Q : Ex → Env → Heap → Prop} : condQ S base (.sc (.bool t)) a b en h Q ↔ (t = true → WpC S base a en h Q) ∧ (t = false → WpC S base b en h Q) := by
  cases t <;> simp [condQ]
theorem guardQ_c {t : Bool} {w : Bool} {dst : Option Nat} {op : AOp} {r : List AOper} {en : Env} {h : Heap} {Q : Env → Heap → Prop} : guardQ S base (.sc (.bool t)) w dst op r en h Q ↔ (t = w → WpO S base (⟨dst, op, none, []⟩ :: r) en h Q) ∧ (t = !w → WpO S base r (en.put dst (.tup [])) h Q) := by
  cases t <;> cases w <;> simp [guardQ, gOk]
theorem condQ_i {t : Bool} {a b : ACode} {en : Env} {h : Heap} {Q : Ex → Env → Heap → Prop} (h1 : t = true → WpC S base a en h Q) (h2 : t = false → WpC S base b en h Q) : condQ S base (.sc (.bool t)) a b en h Q := condQ_c.2 ⟨h1, h2⟩
theorem guardQ_t {t : Bool} {dst : Option Nat} {op : AOp} {r : List AOper} {en : Env} {h : Heap} {Q : Env → Heap → Prop} (h1 : t = true → WpO S base (⟨dst, op, none, []⟩ :: r) en h Q) (h2 : t = false → WpO S base r (en.put dst (.tup [])) h Q) : guardQ S base (.sc (.bool t)) true dst op r en h Q := guardQ_c.2 ⟨h1, h2⟩
theorem guardQ_f {t : Bool} {dst : Option Nat} {op : AOp} {r : List AOper} {en : Env} {h : Heap} {Q : Env → Heap → Prop} (h1 : t = false → WpO S base (⟨dst, op, none, []⟩ :: r) en h Q) (h2 : t = true → WpO S base r (en.put dst (.tup [])) h Q) : guardQ S base (.sc (.bool t)) false dst op r en h Q := guardQ_c.2 ⟨h1, h2⟩
end
end
section
theorem SQ : ((((((∀ {S : Fns} {base : Nat} {en : Env} {h : Heap} {Q : Ex → Env → Heap → Prop}, WpC S base ACode.skip en h Q ↔ Q Ex.normal en h) ∧ (∀ {S : Fns} {base : Nat} {en : Env} {h : Heap} {Q : Ex → Env → Heap → Prop}, WpC S base ACode.ret en h Q ↔ Q Ex.ret en h) ∧ ∀ {S : Fns} {base id : Nat} {en : Env} {h : Heap} {Q : Ex → Env → Heap → Prop}, WpC S base (ACode.exit id) en h Q ↔ Q (Ex.exit id) en h) ∧ (∀ {S : Fns} {base : Nat} {ops : List AOper} {en : Env} {h : Heap} {Q : Ex → Env → Heap → Prop}, WpC S base (ACode.region ops) en h Q ↔ WpO S base ops en h (Q Ex.normal)) ∧ (∀ {S : Fns} {base : Nat} {a b : ACode} {en : Env} {h : Heap} {Q : Ex → Env → Heap → Prop}, WpC S base (ACode.seq a b) en h Q ↔ WpC S base a en h (thenC S base b Q)) ∧ ∀ {S : Fns} {base id : Nat} {c : ACode} {en : Env} {h : Heap} {Q : Ex → Env → Heap → Prop}, WpC S base (ACode.block id c) en h Q ↔ WpC S base c en h (blockQ id Q)) ∧ ((∀ {S : Fns} {base : Nat} {a b : ACode} {en : Env} {h : Heap} {Q : Ex → Env → Heap → Prop} {c : Opd}, WpC S base (ACode.cond c a b) en h Q ↔ condQ S base (Opd.get en c) a b en h Q) ∧ (∀ {S : Fns} {base : Nat} {b : ACode} {en : Env} {h : Heap} {Q : Ex → Env → Heap → Prop}, thenC S base b Q Ex.normal en h = WpC S base b en h Q) ∧ ∀ {S : Fns} {base : Nat} {b : ACode} {en : Env} {h : Heap} {Q : Ex → Env → Heap → Prop}, thenC S base b Q Ex.ret en h = Q Ex.ret en h) ∧ ((∀ {S : Fns} {base : Nat} {b : ACode} {en : Env} {h : Heap} {Q : Ex → Env → Heap → Prop} {i : Nat}, thenC S base b Q (Ex.exit i) en h = Q (Ex.exit i) en h) ∧ ∀ {K : Env → Heap → Prop} {Q : Ex → Env → Heap → Prop} {en : Env} {h : Heap}, thenQ K Q Ex.normal en h = K en h) ∧ (∀ {K : Env → Heap → Prop} {Q : Ex → Env → Heap → Prop} {en : Env} {h : Heap}, thenQ K Q Ex.ret en h = Q Ex.ret en h) ∧ ∀ {K : Env → Heap → Prop} {Q : Ex → Env → Heap → Prop} {en : Env} {h : Heap} {i : Nat}, thenQ K Q (Ex.exit i) en h = Q (Ex.exit i) en h) ∧ (((∀ {S : Fns} {base : Nat} {a b : ACode} {en : Env} {h : Heap} {Q : Ex → Env → Heap → Prop}, condQ S base (V.sc (Value.bool true)) a b en h Q = WpC S base a en h Q) ∧ (∀ {S : Fns} {base : Nat} {a b : ACode} {en : Env} {h : Heap} {Q : Ex → Env → Heap → Prop}, condQ S base (V.sc (Value.bool false)) a b en h Q = WpC S base b en h Q) ∧ ∀ {S : Fns} {base : Nat} {dst : Option Nat} {r : List AOper} {en : Env} {Q : Env → Heap → Prop} {h : Heap} {v : V}, opQ S base (some (v, h)) dst r en Q = WpO S base r (Env.put en dst v) h Q) ∧ (∀ {S : Fns} {base : Nat} {dst : Option Nat} {r : List AOper} {en : Env} {Q : Env → Heap → Prop}, opQ S base none dst r en Q = False) ∧ (∀ {S : Fns} {base : Nat} {dst : Option Nat} {r : List AOper} {en : Env} {Q : Env → Heap → Prop} {h : Heap} {op : AOp}, guardQ S base (V.sc (Value.bool true)) true dst op r en h Q = WpO S base ({ dst := dst, op := op, guard := none, off := [] } :: r) en h Q) ∧ ∀ {S : Fns} {base : Nat} {dst : Option Nat} {r : List AOper} {en : Env} {Q : Env → Heap → Prop} {h : Heap} {op : AOp}, guardQ S base (V.sc (Value.bool true)) false dst op r en h Q = WpO S base r (Env.put en dst (V.tup [])) h Q) ∧ ((∀ {S : Fns} {base : Nat} {dst : Option Nat} {r : List AOper} {en : Env} {Q : Env → Heap → Prop} {h : Heap} {op : AOp}, guardQ S base (V.sc (Value.bool false)) true dst op r en h Q = WpO S base r (Env.put en dst (V.tup [])) h Q) ∧ (∀ {S : Fns} {base : Nat} {dst : Option Nat} {r : List AOper} {en : Env} {Q : Env → Heap → Prop} {h : Heap} {op : AOp}, guardQ S base (V.sc (Value.bool false)) false dst op r en h Q = WpO S base ({ dst := dst, op := op, guard := none, off := [] } :: r) en h Q) ∧ ∀ {S : Fns} {base : Nat} {dst : Option Nat} {r : List AOper} {en : Env} {Q : Env → Heap → Prop} {h : Heap} {op : AOp} {want : Bool}, guardQ S base (V.tup []) want dst op r en h Q = WpO S base r (Env.put en dst (V.tup [])) h Q) ∧ ((∀ {id : Nat} {Q : Ex → Env → Heap → Prop} {en : Env} {h : Heap}, blockQ id Q Ex.normal en h = Q Ex.normal en h) ∧ ∀ {id : Nat} {Q : Ex → Env → Heap → Prop} {en : Env} {h : Heap}, blockQ id Q Ex.ret en h = Q Ex.ret en h) ∧ (∀ {id i : Nat} {Q : Ex → Env → Heap → Prop} {en : Env} {h : Heap}, blockQ id Q (Ex.exit i) en h = if i = id then Q Ex.normal en h else Q (Ex.exit i) en h) ∧ ∀ {h : Heap} {b : Nat} {rs : List ARes} {Q : V → Heap → Prop} {en : Env}, endP rs b Q Ex.ret en h = resQ (ze en h rs) fun vs => Frz h b (za vs) fun v => Q v (List.take b h)) ∧ ((((∀ {h : Heap} {b : Nat} {rs : List ARes} {Q : V → Heap → Prop} {en : Env}, endP rs b Q Ex.normal en h = resQ (ze en h rs) fun vs => Frz h b (za vs) fun v => Q v (List.take b h)) ∧ (∀ {h : Heap} {rs : List ARes} {Q : V → Heap → Prop} {en : Env}, endI rs Q Ex.ret en h = resQ (ze en h rs) fun vs => Q (za vs) h) ∧ ∀ {h : Heap} {rs : List ARes} {Q : V → Heap → Prop} {en : Env}, endI rs Q Ex.normal en h = resQ (ze en h rs) fun vs => Q (za vs) h) ∧ (∀ {vs : List V} {Q : List V → Prop}, resQ (some vs) Q = Q vs) ∧ (∀ {h : Heap} {b : Nat} {v : Value} {Q : V → Prop}, Frz h b (V.sc v) Q ↔ Q (V.sc v)) ∧ ∀ {h : Heap} {b : Nat} {ex : Cp} {sz : Nat} {rs : List (List V)} {Q : V → Prop}, Frz h b (V.slc ex sz rs) Q ↔ Q (V.slc ex sz rs)) ∧ ((∀ {h : Heap} {b : Nat} {Q : List V → Prop}, FrzL h b [] Q ↔ Q []) ∧ (∀ {h : Heap} {b : Nat} {v : V} {vs : List V} {Q : List V → Prop}, FrzL h b (v :: vs) Q ↔ Frz h b v fun v' => FrzL h b vs fun vs' => Q (v' :: vs')) ∧ ∀ {h : Heap} {b : Nat} {vs : List V} {Q : V → Prop}, Frz h b (V.tup vs) Q ↔ FrzL h b vs fun vs' => Q (V.tup vs')) ∧ ((∀ {h : Heap} {b : Nat} {vs : List V} {Q : V → Prop}, Frz h b (V.agg vs) Q ↔ FrzL h b vs fun vs' => Q (V.agg vs')) ∧ ∀ {h : Heap} {b : Nat} {t : TypeId} {v : Value} {Q : V → Prop}, Frz h b (V.ifc t (V.sc v)) Q ↔ Q (V.ifc t (V.sc v))) ∧ (∀ {S : Fns} {base : Nat} {dst : Option Nat} {op : AOp} {t : Nat} {r : List AOper} {en : Env} {h : Heap} {Q : Env → Heap → Prop}, WpO S base ({ dst := dst, op := op, guard := none, off := [t] } :: r) en h Q ↔ if offV (en t) (AOp.opds op) en = true then WpO S base ({ dst := dst, op := op, guard := none, off := [] } :: r) en h Q else False) ∧ ∀ {b o : Nat} {x : Opd} {l : List Opd} {en : Env}, offV (V.ptr b o) (x :: l) en = (blkNe (Opd.get en x) b && offV (V.ptr b o) l en)) ∧ (((∀ {b o : Nat} {en : Env}, offV (V.ptr b o) [] en = true) ∧ (∀ {b c o : Nat}, blkNe (V.ptr c o) b = (c != b)) ∧ ∀ {b : Nat} {v : Value}, blkNe (V.sc v) b = true) ∧ (∀ {b sz : Nat} {ex : Cp} {rs : List (List V)}, blkNe (V.slc ex sz rs) b = true) ∧ (∀ {b o : Nat} {cs : List V}, blkNe (V.eptr cs o) b = true) ∧ ∀ {b : Nat} {cs : List V}, blkNe (V.agg cs) b = true) ∧ ((∀ {b c e off len : Nat}, blkNe (V.hsl c e off len) b = (c != b)) ∧ (∀ {S : Fns} {base : Nat} {dst : Option Nat} {r : List AOper} {en : Env} {Q : Env → Heap → Prop} {h : Heap} {op : AOp}, ((∀ (f : Opd) (a : List Opd), op ≠ AOp.call f a) ∧ ∀ (f : Opd) (a : List Opd) (t : List Nat), op ≠ AOp.callK f a t) → (WpO S base ({ dst := dst, op := op, guard := none, off := [] } :: r) en h Q ↔ opQ S base (step base en h op) dst r en Q)) ∧ ∀ {S : Fns} {base : Nat} {en : Env} {h : Heap} {Q : Env → Heap → Prop}, WpO S base [] en h Q ↔ Q en h) ∧ ((∀ {S : Fns} {base : Nat} {dst : Option Nat} {r : List AOper} {en : Env} {Q : Env → Heap → Prop} {h : Heap} {f : Opd} {args : List Opd}, WpO S base ({ dst := dst, op := AOp.call f args, guard := none, off := [] } :: r) en h Q ↔ callD S base (zr (Opd.get en f) (zh en args)) dst r en h Q) ∧ ∀ {S : Fns} {base : Nat} {dst : Option Nat} {r : List AOper} {en : Env} {Q : Env → Heap → Prop} {h : Heap} {op : AOp} {g : Nat} {want : Bool}, WpO S base ({ dst := dst, op := op, guard := some (g, want), off := [] } :: r) en h Q ↔ guardQ S base (en g) want dst op r en h Q) ∧ (∀ (en : Env) (t x : Nat) (v : V), Env.put en (some t) v x = if x = t then v else en x) ∧ ∀ (en : Env) (v : V), Env.put en none v = en) ∧ (((((∀ {α : Type} (a b : α), (a ≠ b) = ¬a = b) ∧ (¬False) = True ∧ (¬True) = False) ∧ (∀ (α : Type), (∀ (a : α), True) = True) ∧ (∀ {α : Type} {β : Type} (a : α) (f : α → β), Option.map f (some a) = some (f a)) ∧ ∀ {α : Type} {β : Type} (f : α → β), Option.map f none = none) ∧ ((∀ {α : Type} {β : Type} (a : α) (f : α → Option β), Option.bind (some a) f = f a) ∧ (∀ {α : Type} {β : Type} (f : α → Option β), Option.bind none f = none) ∧ ∀ {α : Type} {x : α} {xs : List α} {d : α}, List.getD (x :: xs) (0 : Nat) d = x) ∧ ((∀ {α : Type} {x : α} {xs : List α} {n : Nat} {d : α}, List.getD (x :: xs) (n + (1 : Nat)) d = List.getD xs n d) ∧ ∀ {α : Type} (as : List α), [] ++ as = as) ∧ (∀ {α : Type} (as : List α), as ++ [] = as) ∧ ∀ {α : Type} {a : α} {as bs : List α}, a :: as ++ bs = a :: (as ++ bs)) ∧ (((false = true) = False ∧ (true = false) = False ∧ ∀ (b : Bool), ((!b) = true) = (b = false)) ∧ (!true) = false ∧ (!false) = true ∧ ∀ {α : Type} {l : List α}, List.take (List.length l) l = l) ∧ ((∀ (p : Prop), (p ∧ True) = p) ∧ (∀ (p : Prop), (True ∧ p) = p) ∧ ∀ {n m : Nat}, (↑n : Int) < (↑m : Int) ↔ n < m) ∧ ((∀ {m n : Nat}, (↑m : Int) ≤ (↑n : Int) ↔ m ≤ n) ∧ ∀ (n : Nat), (0 : Int) ≤ (↑n : Int)) ∧ (∀ (n : Nat), Int.toNat (↑n : Int) = n) ∧ ∀ {α : Type} [inst : LE α] {x y : α}, x ≥ y ↔ y ≤ x) ∧ ((((∀ {α : Type} [inst : LT α] {x y : α}, x > y ↔ y < x) ∧ (∀ {α : Type} {x : Decidable True} (t e : α), (if True then t else e) = t) ∧ ∀ {α : Type} {x : Decidable False} (t e : α), (if False then t else e) = e) ∧ (∀ {α : Type} {β : Type} {as : List α} (f : α → β), List.length (List.map f as) = List.length as) ∧ (∀ (h : Decidable True), decide True = true) ∧ ∀ (h : Decidable False), decide False = false) ∧ ((∀ (a b : Int), (a == b) = decide (a = b)) ∧ (∀ (a b : Int), (a != b) = !decide (a = b)) ∧ ∀ {m n : Nat}, (↑m : Int) = (↑n : Int) ↔ m = n) ∧ ((∀ (n : Nat), (0 : Nat) ≤ n) ∧ ∀ (n : Nat), n ≤ n) ∧ (∀ (b : Bool), (b || true) = true) ∧ ∀ {α : Type} [inst : BEq α] [ReflBEq α] (a : α), (a == a) = true) ∧ (((∀ {α : Type} {a b : α}, Option.getD (some a) b = a) ∧ (∀ {α : Type} {a : α}, Option.getD none a = a) ∧ ∀ {α : Type} {l : List α}, List.drop (0 : Nat) l = l) ∧ ((∀ (n : Nat), n - (0 : Nat) = n) ∧ ∀ (p : Prop), (p ∧ p) = p) ∧ (∀ (p : Prop), (p ∨ True) = True) ∧ ∀ (p : Prop), (True ∨ p) = True) ∧ ((∀ (p : Prop), (p ∨ p) = p) ∧ (∀ (p : Prop), (False ∨ p) = p) ∧ ∀ (p : Prop), (p ∨ False) = p) ∧ ((∀ (p : Prop), (p ∧ False) = False) ∧ ∀ (p : Prop), (False ∧ p) = False) ∧ (∀ (n : Nat), n + (0 : Nat) = n) ∧ ∀ (n : Nat), (0 : Nat) + n = n :=
  (And.intro (And.intro (And.intro (And.intro (And.intro (And.intro @WpC_skip (And.intro @WpC_ret @WpC_exit)) (And.intro @WpC_region (And.intro @WpC_seqD @WpC_block))) (And.intro (And.intro @WpC_condD (And.intro @thenC_normal @thenC_ret)) (And.intro (And.intro @thenC_exit @thenQ_normal) (And.intro @thenQ_ret @thenQ_exit)))) (And.intro (And.intro (And.intro @condQ_true (And.intro @condQ_false @opQ_some)) (And.intro @opQ_none (And.intro @guardQ_tt @guardQ_tf))) (And.intro (And.intro @guardQ_ft (And.intro @guardQ_ff @guardQ_no)) (And.intro (And.intro @blockQ_normal @blockQ_ret) (And.intro @blockQ_exit @endP_ret))))) (And.intro (And.intro (And.intro (And.intro @endP_normal (And.intro @endI_ret @endI_normal)) (And.intro @resQ_some (And.intro @Frz_sci @Frz_slci))) (And.intro (And.intro @FrzL_nili (And.intro @FrzL_consi @Frz_tupi)) (And.intro (And.intro @Frz_aggi @Frz_ifci) (And.intro @WpO_keep1 @offV_ptr)))) (And.intro (And.intro (And.intro @offV_nil (And.intro @blkNe_ptr @blkNe_sc)) (And.intro @blkNe_slc (And.intro @blkNe_eptr @blkNe_agg))) (And.intro (And.intro @blkNe_hsl (And.intro @WpO_opD @WpO_nil)) (And.intro (And.intro @WpO_callD @WpO_guardD) (And.intro @put_app @put_none)))))) (And.intro (And.intro (And.intro (And.intro (And.intro @ne_eq (And.intro @not_false_eq_true @not_true_eq_false)) (And.intro @implies_true (And.intro @Option.map_some @Option.map_none))) (And.intro (And.intro @Option.bind_some (And.intro @Option.bind_none @List.getD_cons_zero)) (And.intro (And.intro @List.getD_cons_succ @List.nil_append) (And.intro @List.append_nil @List.cons_append)))) (And.intro (And.intro (And.intro @Bool.false_eq_true (And.intro @Bool.true_eq_false @Bool.not_eq_true')) (And.intro @Bool.not_true (And.intro @Bool.not_false @List.take_length))) (And.intro (And.intro @and_true (And.intro @true_and @Int.ofNat_lt)) (And.intro (And.intro @Int.ofNat_le @Int.natCast_nonneg) (And.intro @Int.toNat_natCast @ge_iff_le))))) (And.intro (And.intro (And.intro (And.intro @gt_iff_lt (And.intro @if_true @if_false)) (And.intro @List.length_map (And.intro @decide_true @decide_false))) (And.intro (And.intro @int_beq (And.intro @int_bne @Int.natCast_inj)) (And.intro (And.intro @Nat.zero_le @Nat.le_refl) (And.intro @Bool.or_true @beq_self_eq_true)))) (And.intro (And.intro (And.intro @Option.getD_some (And.intro @Option.getD_none @List.drop_zero)) (And.intro (And.intro @Nat.sub_zero @and_self) (And.intro @or_true @true_or))) (And.intro (And.intro @or_self (And.intro @false_or @or_false)) (And.intro (And.intro @and_false @false_and) (And.intro @Nat.add_zero @Nat.zero_add)))))))
theorem SQX : (((∀ {α : Type} {a : α} {l : List α} {f : α → Bool}, List.all (a :: l) f = (f a && List.all l f)) ∧ (∀ {α : Type} {f : α → Bool}, List.all [] f = true) ∧ ∀ {v : Value}, ground (V.sc v) = true) ∧ (∀ {ex : Cp} {sz : Nat} {rs : List (List V)}, ground (V.slc ex sz rs) = true) ∧ (∀ {α : Type} {p : α → Bool}, Option.all p none = true) ∧ ∀ {α : Type} {p : α → Bool} {x : α}, Option.all p (some x) = p x) ∧ ((∀ (b : Bool), (b && true) = b) ∧ (∀ (b : Bool), (true && b) = b) ∧ ∀ {α : Type} {a : α} {l : List α}, (a :: l)[(0 : Nat)]? = some a) ∧ (∀ {α : Type} {a : α} {i : Nat} {l : List α}, (a :: l)[i + (1 : Nat)]? = l[i]?) ∧ (∀ {α : Type} {a : α} {as : List α}, List.length (a :: as) = List.length as + (1 : Nat)) ∧ ∀ {α : Type}, List.length ([] : List α) = (0 : Nat) :=
  (And.intro (And.intro (And.intro @List.all_cons (And.intro @List.all_nil @ground_sc)) (And.intro @ground_slc (And.intro @Option.all_none @Option.all_some))) (And.intro (And.intro @Bool.and_true (And.intro @Bool.true_and @List.getElem?_cons_zero)) (And.intro @List.getElem?_cons_succ (And.intro @List.length_cons @List.length_nil))))
theorem SQB : (((∀ {S : Fns} {base : Nat} {a b : ACode} {en : Env} {h : Heap} {Q : Ex → Env → Heap → Prop} {t : Bool}, condQ S base (V.sc (Value.bool t)) a b en h Q = if t = true then WpC S base a en h Q else WpC S base b en h Q) ∧ ∀ {p : Prop} [inst : Decidable p], (decide p = true) = p) ∧ (∀ {p : Prop} {x : Decidable p}, decide p = false ↔ ¬p) ∧ ∀ {α : Type} [inst : BEq α] [LawfulBEq α] {a b : α}, (a != b) = true ↔ a ≠ b) ∧ ((∀ {α : Type} [inst : BEq α] [LawfulBEq α] {a b : α}, (a == b) = true ↔ a = b) ∧ ∀ (a b : Bool), ((a && b) = true) = (a = true ∧ b = true)) ∧ (∀ {p : Prop} [Decidable p], ¬¬p ↔ p) ∧ ∀ {p : Prop} [g : Decidable p] [h : Decidable ¬p], (decide ¬p) = !decide p :=
  (And.intro (And.intro (And.intro @condQ_bool @decide_eq_true_eq) (And.intro @decide_eq_false_iff_not @bne_iff_ne)) (And.intro (And.intro @beq_iff_eq @Bool.and_eq_true) (And.intro @Decidable.not_not @decide_not)))
end
section
def consO (o : Option Nat) (l : List Nat) : List Nat := match o with | some b => b :: l | none => l
def keepL (en : Env) : List Nat → List Nat
  | [] => []
  | t :: ts => consO (blockOf (en t)) (keepL en ts)
theorem consO_some {b : Nat} {l : List Nat} : consO (some b) l = b :: l := rfl
theorem consO_none {l : List Nat} : consO none l = l := rfl
theorem keep_iff {en : Env} {h h' : Heap} : ∀ {ts : List Nat}, keepB en h h' ts = true ↔ ∀ b ∈ keepL en ts, h'[b]? = h[b]?
  | [] => by simp [keepB, keepL]
  | t :: ts => by
    have ih := keep_iff (en := en) (h := h) (h' := h') (ts := ts)
    simp only [keepB, List.all_cons, Bool.and_eq_true, keepL] at ih ⊢
    cases hb : blockOf (en t) with
    | none => simp only [consO_none]; rw [← ih]; simp
    | some b =>
      simp only [consO_some, List.mem_cons, forall_eq_or_imp]
      rw [← ih, eqOO_iff]
      constructor
      · rintro ⟨a, c⟩; exact ⟨a.symm, c⟩
      · rintro ⟨a, c⟩; exact ⟨a.symm, c⟩
def callKD (S : Fns) (base : Nat) (t : Option (FuncId × List V)) (bs : List Nat) (dst : Option Nat) (r : List AOper) (en : Env) (h : Heap) (Q : Env → Heap → Prop) : Prop :=
  match t with
  | some (k, vs) => WpF S base k vs h fun v h1 => (∀ b ∈ bs, h1[b]? = h[b]?) ∧ WpO S base r (en.put dst v) h1 Q
  | none => False
section
variable {S : Fns} {base : Nat} {dst : Option Nat} {r : List AOper} {en : Env} {Q : Env → Heap → Prop} {h : Heap}
theorem WpO_callKD {f : Opd} {args : List Opd} {ts : List Nat} : WpO S base (⟨dst, .callK f args ts, none, []⟩ :: r) en h Q ↔ callKD S base (zr (f.get en) (zh en args)) (keepL en ts) dst r en h Q := by
  have ev : ∀ n, evVal (evCall S.X S.F n) base ⟨dst, .callK f args ts, none, []⟩ en h = match zr (f.get en) (zh en args) with
      | some (k, vs) => match evCall S.X S.F n base k vs h with
        | some (v, h') => if keepB en h h' ts = true then some (v, h') else none
        | none => none
      | none => none := fun n => by simp only [evVal, evOper, offOk, List.all_nil, if_true, evOp]; rfl
  constructor
  · rintro ⟨n, en', h', e, q⟩
    rw [evOps_cons, Option.bind_eq_some_iff] at e
    obtain ⟨⟨v, h1⟩, e1, e2⟩ := e
    rw [ev] at e1
    cases ht : zr (f.get en) (zh en args) with
    | none => rw [ht] at e1; simp at e1
    | some p =>
      obtain ⟨k, vs⟩ := p
      rw [ht] at e1
      simp only at e1
      split at e1
      · rename_i v' h'' e3
        split at e1
        · rename_i hk
          simp only [Option.some.injEq, Prod.mk.injEq] at e1
          obtain ⟨rfl, rfl⟩ := e1
          exact ⟨n, _, _, e3, keep_iff.1 hk, n, en', h', e2, q⟩
        · simp at e1
      · simp at e1
  · intro hq
    cases ht : zr (f.get en) (zh en args) with
    | none => rw [ht] at hq; exact hq.elim
    | some p =>
      obtain ⟨k, vs⟩ := p
      rw [ht] at hq
      obtain ⟨n, v, h1, e1, hk, m, en', h', e2, q⟩ := hq
      refine ⟨max n m, en', h', ?_, q⟩
      rw [evOps_cons, ev, ht]
      simp only [evCall_mono (X := S.X) (F := S.F) (Nat.le_max_left n m) _ _ _ _ _ e1, keep_iff.2 hk, if_true, Option.bind_some]
      exact evOps_mono (evCall_mono (Nat.le_max_right n m)) e2
theorem callKD_some {k : FuncId} {vs : List V} {bs : List Nat} : callKD S base (some (k, vs)) bs dst r en h Q = WpF S base k vs h fun v h1 => (∀ b ∈ bs, h1[b]? = h[b]?) ∧ WpO S base r (en.put dst v) h1 Q := rfl
theorem callKD_ret {k : FuncId} {vs : List V} {bs : List Nat} {h0 : Heap} {v0 : V} (hw : WpF S base k vs h fun v h' => v = v0 ∧ h' = h0) : callKD S base (some (k, vs)) bs dst r en h Q ↔ (∀ b ∈ bs, h0[b]? = h[b]?) ∧ WpO S base r (en.put dst v0) h0 Q := WpF_iff (Q := fun v h1 => (∀ b ∈ bs, h1[b]? = h[b]?) ∧ WpO S base r (en.put dst v) h1 Q) hw
end
theorem appNil {base : Nat} {h : Heap} {t : TypeId} {sz : Nat} {new : List (List V)} (hn : new ≠ []) (hl : new.length ≤ lim) (ho : newOk sz new = true) : appendV base h t sz (.sc (.slice none 0 0)) new = some (.hsl h.length 0 0 new.length, h ++ [.row t sz 0 new]) := by
  cases new with
  | nil => exact absurd rfl hn
  | cons r rs => simp only [appendV]; rw [if_pos ⟨hl, ho⟩]
theorem appHsl {base b e : Nat} {h : Heap} {t : TypeId} {sz : Nat} {rs new : List (List V)} (hg : h[b]? = some (.row t sz e rs)) (hn : new ≠ []) (hl : rs.length + new.length ≤ lim) (ho : newOk sz new = true) (hb : base ≤ b) : appendV base h t sz (.hsl b e 0 rs.length) new = some (.hsl b (e + 1) 0 (rs.length + new.length), h.set b (.row t sz (e + 1) (rs ++ new))) := by
  cases new with
  | nil => exact absurd rfl hn
  | cons r r2 =>
    simp only [appendV, hg]
    rw [if_pos ⟨trivial, trivial, trivial, Nat.le_refl _, hl, ho, List.all_eq_true.2 fun x _ => by simp [mayStore, hb]⟩, List.take_of_length_le (Nat.le_refl _), if_pos trivial]
theorem appTail {base b e len : Nat} {h : Heap} {t : TypeId} {sz : Nat} {rs new : List (List V)} (hg : h[b]? = some (.row t sz e rs)) (hle : len ≤ rs.length) (hn : new ≠ []) (hl : len + new.length ≤ lim) (ho : newOk sz new = true) (hb : base ≤ b) : appendV base h t sz (.hsl b e 0 len) new = some (.hsl b (e + 1) 0 (len + new.length), h.set b (.row t sz (e + 1) (rs.take len ++ new ++ rs.drop (len + new.length)))) := by
  cases new with
  | nil => exact absurd rfl hn
  | cons r r2 =>
    simp only [appendV, hg]
    rw [if_pos ⟨trivial, trivial, trivial, hle, hl, ho, List.all_eq_true.2 fun x _ => by simp [mayStore, hb]⟩]
    split
    · rw [List.drop_eq_nil_of_le (by omega), List.append_nil]
    · rfl
end
section
abbrev nilP : V := .sc (.pointer none)
abbrev sNil : V := .sc (.slice none 0 0)
abbrev sci (n : Int) : V := .sc (.int .i64 n)
theorem ldE {h : Heap} {n : Option Nat} {cs : List V} {off : Nat} : zl h n (.eptr cs off) = zb n cs off := rfl
set_option maxRecDepth 100000 in
theorem awakeS (base : Nat) : evCall Xt Ft 200 base k_spinnakerlaw20_awake [] [] = some (.sc (.bool true), []) := by kernel_rfl
theorem hart_nil {base : Nat} (n : Int) (h : Heap) : WpF S0 base k_sim_Sim_hart [nilP, sci n] h fun v h' => v = nilP ∧ h' = h := by
  first | refine zu (A := f_sim_Sim_hart) rfl rfl rfl rfl ?_ | refine zB (A := f_sim_Sim_hart) rfl rfl rfl rfl ?_
  simp only [f_sim_Sim_hart, oD, cD]
  simp only [SQ, SQB, zm, AOp.opds, step, Opd.get, zk, bin, zc, IntKind.signed, zi, zj, zl, zb, unary, ze, zd, za, zo, zr, zh, zf, zg, zp, Cp.isFull, isNil, zq, simprocAttr, SQX, V.cells, List.take_length, Nat.le_refl]
theorem can_nil {base : Nat} (a b c : Int) (h : Heap) : WpF S0 base k_sim_Sim_Can [nilP, .agg [sci a, sci b, sci c]] h fun v h' => v = .bool false ∧ h' = h := by
  have hh := fun base n h => hart_nil (base := base) n h
  first | refine zu (A := f_sim_Sim_Can) rfl rfl rfl rfl ?_ | refine zB (A := f_sim_Sim_Can) rfl rfl rfl rfl ?_
  simp only [f_sim_Sim_Can, oD, cD]
  simp only [SQ, SQB, zm, AOp.opds, step, Opd.get, zk, bin, zc, IntKind.signed, zi, zj, zl, zb, unary, ze, zd, za, zo, zr, zh, zf, zg, zp, Cp.isFull, isNil, zq, simprocAttr, SQX, V.cells, ldE, zn (hh _ _ _), List.take_length, Nat.le_refl]
theorem do_nil {base : Nat} (a b c : Int) (h : Heap) : WpF S0 base k_sim_Sim_Do [nilP, .agg [sci a, sci b, sci c]] h fun v h' => v = .bool false ∧ h' = h := by
  have hh := fun base h => can_nil (base := base) a b c h
  first | refine zu (A := f_sim_Sim_Do) rfl rfl rfl rfl ?_ | refine zB (A := f_sim_Sim_Do) rfl rfl rfl rfl ?_
  simp only [f_sim_Sim_Do, oD, cD]
  simp only [SQ, SQB, zm, AOp.opds, step, Opd.get, zk, bin, zc, IntKind.signed, zi, zj, zl, zb, unary, ze, zd, za, zo, zr, zh, zf, zg, zp, Cp.isFull, isNil, zq, simprocAttr, SQX, V.cells, ldE, zn (hh _ _), List.take_length, List.take_succ_cons, List.take_zero, Nat.le_refl]
theorem run_nil {base : Nat} (a b c : Int) (ex : Cp) (h : Heap) : WpF S0 base k_sim_Sim_Run [nilP, .slc ex 3 [[sci a, sci b, sci c]]] h fun v h' => v = sci 0 ∧ h' = h := by
  have hd := fun base h => do_nil (base := base) a b c h
  have e1 : IntKind.i64.wrap 1 = 1 := by decide
  first | refine zu (A := f_sim_Sim_Run) rfl rfl rfl rfl ?_ | refine zB (A := f_sim_Sim_Run) rfl rfl rfl rfl ?_
  simp only [f_sim_Sim_Run, oD, cD]
  simp only [SQ, SQB, zm, AOp.opds, step, Opd.get, zk, bin, zc, IntKind.signed, zi, zj, zl, zb, unary, ze, zd, za, zo, zr, zh, zf, zg, zp, Cp.isFull, isNil, zq, simprocAttr, SQX, V.cells, WpC_loopU, ldE, zn (hd _ _), e1, List.take_length, List.take_succ_cons, List.take_zero, Nat.le_refl]
theorem harts_nil {base : Nat} (h : Heap) : WpF S0 base k_sim_Sim_Harts [nilP] h fun v h' => v = sci 0 ∧ h' = h := by
  first | refine zu (A := f_sim_Sim_Harts) rfl rfl rfl rfl ?_ | refine zB (A := f_sim_Sim_Harts) rfl rfl rfl rfl ?_
  simp only [f_sim_Sim_Harts, oD, cD]
  simp only [SQ, SQB, zm, AOp.opds, step, Opd.get, zk, bin, zc, IntKind.signed, zi, zj, zl, zb, unary, ze, zd, za, zo, zr, zh, zf, zg, zp, Cp.isFull, isNil, zq, simprocAttr, SQX, V.cells, List.take_length, Nat.le_refl]
theorem stop_nil {base : Nat} (n : Int) (h : Heap) : WpF S0 base k_sim_Sim_Stop [nilP, sci n] h fun v h' => v = sci 0 ∧ h' = h := by
  have hh := fun base n h => hart_nil (base := base) n h
  first | refine zu (A := f_sim_Sim_Stop) rfl rfl rfl rfl ?_ | refine zB (A := f_sim_Sim_Stop) rfl rfl rfl rfl ?_
  simp only [f_sim_Sim_Stop, oD, cD]
  simp only [SQ, SQB, zm, AOp.opds, step, Opd.get, zk, bin, zc, IntKind.signed, zi, zj, zl, zb, unary, ze, zd, za, zo, zr, zh, zf, zg, zp, Cp.isFull, isNil, zq, simprocAttr, SQX, V.cells, zn (hh _ _ _), List.take_length, Nat.le_refl]
theorem halted_nil {base : Nat} (h : Heap) : WpF S0 base k_sim_Sim_Halted [nilP] h fun v h' => v = .bool true ∧ h' = h := by
  have hh := fun base h => harts_nil (base := base) h
  first | refine zu (A := f_sim_Sim_Halted) rfl rfl rfl rfl ?_ | refine zB (A := f_sim_Sim_Halted) rfl rfl rfl rfl ?_
  simp only [f_sim_Sim_Halted, oD, cD]
  simp only [SQ, SQB, zm, AOp.opds, step, Opd.get, zk, bin, zc, IntKind.signed, zi, zj, zl, zb, unary, ze, zd, za, zo, zr, zh, zf, zg, zp, Cp.isFull, isNil, zq, simprocAttr, SQX, V.cells, WpC_loopU, zn (hh _ _), List.take_length, Nat.le_refl]
theorem tape_nil {base : Nat} (n : Int) (h : Heap) : WpF S0 base k_sim_Sim_Tape [nilP, sci n] h fun v h' => v = sNil ∧ h' = h := by
  have hh := fun base n h => hart_nil (base := base) n h
  first | refine zu (A := f_sim_Sim_Tape) rfl rfl rfl rfl ?_ | refine zB (A := f_sim_Sim_Tape) rfl rfl rfl rfl ?_
  simp only [f_sim_Sim_Tape, oD, cD]
  simp only [SQ, SQB, zm, AOp.opds, step, Opd.get, zk, bin, zc, IntKind.signed, zi, zj, zl, zb, unary, ze, zd, za, zo, zr, zh, zf, zg, zp, Cp.isFull, isNil, zq, simprocAttr, SQX, V.cells, zn (hh _ _ _), List.take_length, Nat.le_refl]
theorem recs_nil {base : Nat} (n : Int) (h : Heap) : WpF S0 base k_sim_Sim_Recs [nilP, sci n] h fun v h' => v = sNil ∧ h' = h := by
  have hh := fun base n h => hart_nil (base := base) n h
  first | refine zu (A := f_sim_Sim_Recs) rfl rfl rfl rfl ?_ | refine zB (A := f_sim_Sim_Recs) rfl rfl rfl rfl ?_
  simp only [f_sim_Sim_Recs, oD, cD]
  simp only [SQ, SQB, zm, AOp.opds, step, Opd.get, zk, bin, zc, IntKind.signed, zi, zj, zl, zb, unary, ze, zd, za, zo, zr, zh, zf, zg, zp, Cp.isFull, isNil, zq, simprocAttr, SQX, V.cells, zn (hh _ _ _), List.take_length, Nat.le_refl]
theorem flight_nil {base : Nat} (n : Int) (h : Heap) : WpF S0 base k_sim_Sim_Flight [nilP, sci n] h fun v h' => v = sNil ∧ h' = h := by
  have hh := fun base n h => hart_nil (base := base) n h
  first | refine zu (A := f_sim_Sim_Flight) rfl rfl rfl rfl ?_ | refine zB (A := f_sim_Sim_Flight) rfl rfl rfl rfl ?_
  simp only [f_sim_Sim_Flight, oD, cD]
  simp only [SQ, SQB, zm, AOp.opds, step, Opd.get, zk, bin, zc, IntKind.signed, zi, zj, zl, zb, unary, ze, zd, za, zo, zr, zh, zf, zg, zp, Cp.isFull, isNil, zq, simprocAttr, SQX, V.cells, zn (hh _ _ _), List.take_length, Nat.le_refl]
theorem data_nil {base : Nat} (h : Heap) : WpF S0 base k_sim_Sim_Data [nilP] h fun v h' => v = sNil ∧ h' = h := by
  first | refine zu (A := f_sim_Sim_Data) rfl rfl rfl rfl ?_ | refine zB (A := f_sim_Sim_Data) rfl rfl rfl rfl ?_
  simp only [f_sim_Sim_Data, oD, cD]
  simp only [SQ, SQB, zm, AOp.opds, step, Opd.get, zk, bin, zc, IntKind.signed, zi, zj, zl, zb, unary, ze, zd, za, zo, zr, zh, zf, zg, zp, Cp.isFull, isNil, zq, simprocAttr, SQX, V.cells, List.take_length, Nat.le_refl]
theorem rows_nil {base : Nat} (h : Heap) : WpF S0 base k_sim_Sim_Rows [nilP] h fun v h' => v = sNil ∧ h' = h := by
  first | refine zu (A := f_sim_Sim_Rows) rfl rfl rfl rfl ?_ | refine zB (A := f_sim_Sim_Rows) rfl rfl rfl rfl ?_
  simp only [f_sim_Sim_Rows, oD, cD]
  simp only [SQ, SQB, zm, AOp.opds, step, Opd.get, zk, bin, zc, IntKind.signed, zi, zj, zl, zb, unary, ze, zd, za, zo, zr, zh, zf, zg, zp, Cp.isFull, isNil, zq, simprocAttr, SQX, V.cells, List.take_length, Nat.le_refl]
theorem simNobody_law (a b c : Int) : WpF S0 0 k_spinnakerlaw20_SimNobody [.agg [sci a, sci b, sci c]] [] fun v _ => v = .bool true := by
  have aw : ∀ base, WpF S0 base k_spinnakerlaw20_awake [] [] fun v h' => v = .bool true ∧ h' = [] := fun base => ⟨200, _, _, awakeS base, rfl, rfl⟩
  have c1 := fun base => can_nil (base := base) a b c []
  have c2 := fun base => do_nil (base := base) a b c []
  have c3 := fun base ex => run_nil (base := base) a b c ex []
  have c4 := fun base => harts_nil (base := base) []
  have c5 := fun base n => stop_nil (base := base) n []
  have c6 := fun base => halted_nil (base := base) []
  have c7 := fun base n => tape_nil (base := base) n []
  have c8 := fun base n => recs_nil (base := base) n []
  have c9 := fun base n => flight_nil (base := base) n []
  have cA := fun base => data_nil (base := base) []
  have cB := fun base => rows_nil (base := base) []
  have ef : zv 3 [[.sc (.int .i64 0), .sc (.int .i64 0), .sc (.int .i64 0)]] [(0, .agg [sci a, sci b, sci c])] = some [[sci a, sci b, sci c]] := rfl
  first | refine zu (A := f_spinnakerlaw20_SimNobody) rfl rfl rfl rfl ?_ | refine zB (A := f_spinnakerlaw20_SimNobody) rfl rfl rfl rfl ?_
  simp only [f_spinnakerlaw20_SimNobody, oD, cD]
  simp only [SQ, SQB, zm, AOp.opds, step, Opd.get, zk, bin, zc, IntKind.signed, zi, zj, zl, zb, unary, ze, zd, za, zo, zr, zh, zf, zg, zp, Cp.isFull, isNil, zq, simprocAttr, SQX, V.cells, ldE, getParts2, ef, zn (c1 _), zn (c2 _), zn (c3 _ _), zn (c4 _), zn (c5 _ _), zn (c6 _), zn (c7 _ _), zn (c8 _ _), zn (c9 _ _), zn (cA _), zn (cB _), zn (aw _), Nat.le_refl, List.take_length, List.take_succ_cons, List.take_zero]
end
section
section
variable {P : Program} {W : World} {r : Go.Reach} {base : Nat} {t : TypeId} {v : Value}
theorem cells_slice {e : TypeId} (ht : P.underlying t = some (.slice e)) (h : Value.okWide P W r base t v) : v.cells.toList = [v] := by
  unfold Value.okWide Cell.okWide Cell.ok at h
  simp only [ht] at h
  cases v <;> simp_all [Value.cells]
theorem cells_int {k : IntKind} (ht : P.underlying t = some (.int k)) (h : Value.okWide P W r base t v) : v.cells.toList = [v] := by
  unfold Value.okWide Cell.okWide Cell.ok at h
  simp only [ht] at h
  cases v <;> simp_all [Value.cells]
theorem cells_string (ht : P.underlying t = some .string) (h : Value.okWide P W r base t v) : v.cells.toList = [v] := by
  unfold Value.okWide Cell.okWide Cell.ok at h
  simp only [ht] at h
  cases v <;> simp_all [Value.cells]
end
end
section
def ShpF (P : Program) (S : TypeId → List V → Prop) : List Field → List V → Prop
  | [], vs => vs = []
  | f :: fs, vs => ∃ a b, vs = a ++ b ∧ a.length = P.cellsOf f.type ∧ S f.type a ∧ ShpF P S fs b
def Shp (P : Program) : Nat → TypeId → List V → Prop
  | 0, _, _ => False
  | n + 1, t, vs => match P.underlying t with
    | some (.int k) => ∃ m : Int, k.min ≤ m ∧ m ≤ k.max ∧ vs = [.sc (.int k m)]
    | some .bool => ∃ b, vs = [.sc (.bool b)]
    | some .string => ∃ s : ByteArray, s.size ≤ Go.maxLen ∧ vs = [.sc (.string s)]
    | some (.slice e) => ∃ rows : List (List V), vs = [.slc .any (P.cellsOf e) rows] ∧ rows.length ≤ Go.maxLen ∧ ∀ r ∈ rows, Shp P n e r
    | some (.struct fs) => ShpF P (Shp P n) fs.toList vs
    | _ => False
section
variable {P : Program} {n : Nat} {t : TypeId} {vs : List V}
theorem Shp.int {k : IntKind} (ht : P.underlying t = some (.int k)) (h : Shp P n t vs) : ∃ m : Int, k.min ≤ m ∧ m ≤ k.max ∧ vs = [.sc (.int k m)] := by
  cases n with
  | zero => exact h.elim
  | succ n => simpa only [Shp, ht] using h
theorem Shp.bool (ht : P.underlying t = some .bool) (h : Shp P n t vs) : ∃ b, vs = [.sc (.bool b)] := by
  cases n with
  | zero => exact h.elim
  | succ n => simpa only [Shp, ht] using h
theorem Shp.str (ht : P.underlying t = some .string) (h : Shp P n t vs) : ∃ s : ByteArray, s.size ≤ Go.maxLen ∧ vs = [.sc (.string s)] := by
  cases n with
  | zero => exact h.elim
  | succ n => simpa only [Shp, ht] using h
theorem Shp.slc {e : TypeId} (ht : P.underlying t = some (.slice e)) (h : Shp P n t vs) : ∃ (rows : List (List V)) (k : Nat), n = k + 1 ∧ vs = [.slc .any (P.cellsOf e) rows] ∧ rows.length ≤ Go.maxLen ∧ ∀ r ∈ rows, Shp P k e r := by
  cases n with
  | zero => exact h.elim
  | succ n =>
    simp only [Shp, ht] at h
    obtain ⟨rows, h1, h2, h3⟩ := h
    exact ⟨rows, n, rfl, h1, h2, h3⟩
theorem Shp.struct {fs : Array Field} (ht : P.underlying t = some (.struct fs)) (h : Shp P n t vs) : ∃ k, n = k + 1 ∧ ShpF P (Shp P k) fs.toList vs := by
  cases n with
  | zero => exact h.elim
  | succ n => exact ⟨n, rfl, by simpa only [Shp, ht] using h⟩
end
theorem rows_map {α : Type} {f : α → List V} {Q : α → Prop} : ∀ {rows : List (List V)}, (∀ r ∈ rows, ∃ a, r = f a ∧ Q a) → ∃ l : List α, rows = l.map f ∧ ∀ a ∈ l, Q a
  | [], _ => ⟨[], rfl, by simp⟩
  | r :: rows, h => by
    obtain ⟨l, rfl, hl⟩ := rows_map (fun r hr => h r (List.mem_cons_of_mem _ hr))
    obtain ⟨a, rfl, ha⟩ := h r (List.mem_cons_self ..)
    exact ⟨a :: l, rfl, fun b hb => by
      rcases List.mem_cons.1 hb with rfl | hb
      · exact ha
      · exact hl b hb⟩
def fieldsAt (P : Program) (tys : List TypeId) : List Field → Nat → Option Nat
  | [], o => some o
  | f :: fs, o => if f.offset = o ∧ tys.contains f.type = true then fieldsAt P tys fs (o + P.cellsOf f.type) else none
def chkTy (P : Program) (tys : List TypeId) : Bool := tys.all fun t => match P.underlying t with
  | some (.int _) | some .bool | some .string => P.cellsOf t == 1
  | some (.slice e) => P.cellsOf t == 1 && tys.contains e && decide (0 < P.cellsOf e)
  | some (.struct fs) => fieldsAt P tys fs.toList 0 == some (P.cellsOf t)
  | _ => false
section
variable {H : Type} {enc : TypeId × Value → H} {P : Program} {W : World} {base : Nat} {spare : Nat → Bool} {held : Bool} {tys : List TypeId}
theorem fields_shp {n : Nat} (ih : ∀ t cs x, t ∈ tys → DataW.trod enc P W base spare held n t cs = some x → Reads W (Shp P n t) (P.cellsOf t) cs) :
    ∀ (fs : List Field) (o : Nat) (cs : List Value), (∀ f ∈ fs, ∃ y, DataW.trod enc P W base spare held n f.type ((cs.drop f.offset).take (P.cellsOf f.type)) = some y) → fieldsAt P tys fs o = some cs.length →
      ∃ vs, vs.length = cs.length - o ∧ o ≤ cs.length ∧ vs.all ground = true ∧ ShpF P (Shp P n) fs vs ∧ RepL (start W) vs (cs.drop o)
  | [], o, cs, _, ho => by
    simp only [fieldsAt, Option.some.injEq] at ho
    subst ho
    exact ⟨[], by simp, Nat.le_refl _, rfl, rfl, by simp [RepL]⟩
  | f :: fs, o, cs, hf, ho => by
    simp only [fieldsAt] at ho
    split at ho
    · rename_i hc
      obtain ⟨rfl, hm⟩ := hc
      obtain ⟨y, hy⟩ := hf f (by simp)
      obtain ⟨b, b1, b2, b3, b4, b5⟩ := fields_shp ih fs _ cs (fun g hg => hf g (by simp [hg])) ho
      obtain ⟨a, a1, a2, a3, a4⟩ := ih _ _ _ (by simpa using hm) hy
      refine ⟨a ++ b, by simp only [List.length_append]; omega, by omega, by simp [a2, b3], ⟨a, b, rfl, a1, a3, b4⟩, ?_⟩
      have := a4.append b5
      rwa [← List.drop_drop, List.take_append_drop] at this
    · simp at ho
theorem trod_shp (hc : chkTy P tys = true) : ∀ (fuel : Nat) (t : TypeId) (cs : List Value) (x : DataW H × List MemPlace), t ∈ tys → DataW.trod enc P W base spare held fuel t cs = some x → Reads W (Shp P fuel t) (P.cellsOf t) cs
  | 0, t, cs, x, _, h => by simp [DataW.trod] at h
  | n + 1, t, cs, x, ht, h => by
    have hk := List.all_eq_true.1 hc t ht
    cases hu : P.underlying t with
    | none => rw [hu] at hk; simp at hk
    | some d =>
      rw [hu] at hk
      cases d with
      | int k =>
        simp only [beq_iff_eq] at hk
        obtain ⟨m, h1, h2, h3⟩ := trod_intV hu h
        exact ⟨[.sc (.int k m)], hk.symm, rfl, by simp only [Shp, hu]; exact ⟨m, h1, h2, rfl⟩, h3⟩
      | bool =>
        simp only [beq_iff_eq] at hk
        obtain ⟨b, rfl, _⟩ := DataW.trod_bool hu h
        exact ⟨[.sc (.bool b)], hk.symm, rfl, by simp only [Shp, hu]; exact ⟨b, rfl⟩, by simp [RepL, RepV, Value.oneCell']⟩
      | string =>
        simp only [beq_iff_eq] at hk
        obtain ⟨s, h1, h2⟩ := trod_strV hu h
        exact ⟨[.sc (.string s)], hk.symm, rfl, by simp only [Shp, hu]; exact ⟨s, h1, rfl⟩, h2⟩
      | slice e =>
        simp only [Bool.and_eq_true, beq_iff_eq, decide_eq_true_eq] at hk
        obtain ⟨⟨h1, h2⟩, h3⟩ := hk
        obtain ⟨rows, r1, r2, r3⟩ := trod_slcN (Good := Shp P n e) hu h3 (fun k cs y hkn hy _ => by
          obtain rfl : n = k := by omega
          exact trod_shp hc n e cs y (by simpa using h2) hy) h
        exact ⟨[.slc .any (P.cellsOf e) rows], h1.symm, rfl, by simp only [Shp, hu]; exact ⟨rows, rfl, r2, fun r hr => (r3 r hr).2⟩, r1⟩
      | struct fs =>
        simp only [beq_iff_eq] at hk
        obtain ⟨xs, m, hm, _, hl, hx, hf⟩ := DataW.trod_struct hu h
        obtain rfl : n = m := by omega
        obtain ⟨vs, v1, _, v2, v3, v4⟩ := fields_shp (trod_shp hc n) fs.toList 0 cs (fun f hf' => by
          obtain ⟨i, hi, rfl⟩ := List.getElem_of_mem hf'
          have hi' : i < fs.size := by simpa using hi
          have := hf i fs[i] (by simp [hi'])
          rw [List.getElem?_eq_getElem (by omega)] at this
          exact ⟨_, by simpa using this⟩) (by rw [hk, hl])
        exact ⟨vs, by omega, v2, by simp only [Shp, hu]; exact v3, by simpa using v4⟩
      | _ => simp at hk
def Each {α β : Type} (R : α → β → Prop) : List α → List β → Prop
  | [], [] => True
  | a :: as, b :: bs => R a b ∧ Each R as bs
  | _, _ => False
def ArgShp (P : Program) (t : TypeId) (v : V) : Prop := ∃ n vs, Shp P n t vs ∧ match P.underlying t with
  | some (.struct _) => v = .agg vs
  | _ => vs = [v]
theorem args_shp (hc : chkTy P tys = true) {r : Go.Reach} {ob : Nat} : ∀ {ts : List TypeId} {vs : List Value} {ds : List (DataW H)} {ps : List MemPlace}, (∀ t ∈ ts, t ∈ tys) → DataW.TrodAll enc P W base spare held ts vs ds ps →
    (∀ (j : Nat) t v, ts[j]? = some t → vs[j]? = some v → Value.okWide P W r ob t v) → ∃ as : List V, RepL (start W) as vs ∧ Each (ArgShp P) ts as ∧ ds.length = ts.length
  | [], vs, ds, ps, _, h, _ => by
    obtain ⟨rfl, rfl, rfl⟩ := ChangeShapes.trodAll_nil h
    exact ⟨[], by simp [RepL], trivial, rfl⟩
  | t :: ts, vs, ds, ps, hin, h, hv => by
    obtain ⟨v, vs', d, ds', p, q, rfl, rfl, rfl, h0, h1⟩ := ChangeShapes.trodAll_cons h
    obtain ⟨as, a1, a2, a3⟩ := args_shp hc (fun t ht => hin t (by simp [ht])) h1 (fun j t' v' hj hv' => hv (j + 1) t' v' (by simpa using hj) (by simpa using hv'))
    obtain ⟨n, h0⟩ := h0
    obtain ⟨xs, x1, x2, x3, x4⟩ := trod_shp hc n t _ _ (hin t (by simp)) h0
    have k0 := hv 0 t v rfl rfl
    have hk := List.all_eq_true.1 hc t (hin t (by simp))
    cases hu : P.underlying t with
    | none => rw [hu] at hk; simp at hk
    | some e =>
      by_cases hst : ∃ fs, e = .struct fs
      · obtain ⟨fs, rfl⟩ := hst
        unfold Value.okWide at k0
        rw [hu] at k0
        obtain ⟨cs, rfl, _, _⟩ := k0
        refine ⟨.agg xs :: as, ?_, ⟨⟨n, xs, x3, by rw [hu]⟩, a2⟩, by simp [a3]⟩
        simp only [RepL, RepV]
        exact ⟨_, _, rfl, ⟨cs, rfl, x4⟩, a1⟩
      · rw [hu] at hk
        have h1c : P.cellsOf t = 1 := by
          cases e <;> simp_all
        obtain ⟨y, rfl⟩ : ∃ y, xs = [y] := by
          match xs, x1 with
          | [y], _ => exact ⟨y, rfl⟩
          | [], h => simp at h; omega
          | _ :: _ :: _, h => simp at h; omega
        have hcells : v.cells.toList = [v] := by
          unfold Value.okWide Cell.okWide Cell.ok at k0
          cases e <;> simp only [hu] at k0 <;> cases v <;> simp_all [Value.cells]
        rw [hcells] at x4
        refine ⟨y :: as, ?_, ⟨⟨n, [y], x3, ?_⟩, a2⟩, by simp [a3]⟩
        · have := RepL.append x4 a1
          simpa using this
        · rw [hu]
          cases e <;> first | rfl | exact absurd ⟨_, rfl⟩ hst
end
end
end Go.Am
