/- Am: calls. -/
import Derived.Test.YtefbdhbfhgapeaaDoorAmRun7
namespace Go.Am
open Go.RowKit (Below)

mutual
theorem RepV.refs {G : Tie} : ∀ {v : V} {r : Value}, RepV G v r → refsLt G.n v = true
  | .undef, _, _ => by simp [refsLt]
  | .sc v, r, hv => by simp [refsLt]
  | .agg cs, r, hv => by
    simp only [RepV, refsLt] at hv ⊢
    obtain ⟨rs, e, hv⟩ := hv
    exact RepL.refs hv
  | .tup cs, r, hv => by
    simp only [RepV, refsLt] at hv ⊢
    obtain ⟨rs, e, hv⟩ := hv
    exact RepL.refs hv
  | .slc ex sz rows, r, _ => by simp [refsLt]
  | .hsl b e off len, r, hv => by
    simp only [RepV, refsLt, decide_eq_true_eq] at hv ⊢
    exact hv.1
  | .ptr b off, r, hv => by
    simp only [RepV, refsLt, decide_eq_true_eq] at hv ⊢
    exact hv.1
  | .rptr b e i off, r, hv => by
    simp only [RepV, refsLt, decide_eq_true_eq] at hv ⊢
    exact hv.1
  | .eptr cs off, r, _ => by simp [refsLt]
  | .fn f a c, r, hv => by
    simp only [RepV, refsLt, Bool.and_eq_true] at hv ⊢
    obtain ⟨ra, rc, e, h1, h2⟩ := hv
    exact ⟨RepL.refs h1, RepL.refs h2⟩
  | .ifc t v, r, hv => by
    simp only [RepV, refsLt] at hv ⊢
    obtain ⟨rv, e, hv⟩ := hv
    exact RepV.refs hv
  | .mp b, r, hv => by
    simp only [RepV, refsLt, decide_eq_true_eq] at hv ⊢
    exact hv.1
theorem RepL.refs {G : Tie} : ∀ {v : List V} {r : List Value}, RepL G v r → refsLts G.n v = true
  | [], r, _ => by simp [refsLts]
  | c :: cs, r, hv => by
    simp only [RepL, refsLts, Bool.and_eq_true] at hv ⊢
    obtain ⟨a, rest, e, h1, h2⟩ := hv
    exact ⟨RepV.refs h1, RepL.refs h2⟩
end

theorem Rel.heapOk {G : Tie} {h : Heap} {w : World} (R : Rel G h w) : HeapOk h.length h := by
  intro b hb
  refine ⟨fun t cs e => ?_, fun t sz e rows eq r hr => ?_⟩
  · obtain ⟨_, rs, _, h3⟩ := R.box b t cs e
    rw [← R.n]
    exact h3.refs
  · obtain ⟨_, L, rs, _, _, _, _, _, _, h7⟩ := R.row b t sz e rows eq
    obtain ⟨i, hi⟩ := List.getElem?_of_mem hr
    obtain ⟨_, _, h8⟩ := h7 i r hi
    rw [← R.n, refsLts_all]
    intro v hv
    obtain ⟨j, hj⟩ := List.getElem?_of_mem hv
    obtain ⟨u, _, h9⟩ := h8 j v hj
    exact h9.refs

section
variable {P : Program} {gl : Nat → Option (List V)}

theorem res_run {G : Tie} {h : Heap} {en : Env} {a : Act} {w : World} {nt : Nat} (he : RepEnv G en a.tmps) (R : Rel G h w) : ∀ {rs : List ResultVar} {ars : List ARes} {vs : List V}, compRes P nt rs = some ars → evRess en h ars = some vs →
    ∃ rv : List Value, RepL G vs rv ∧ (rs.mapM (fun r => (match r with
      | .tmp t => pure (a.tmps.getD t undef)
      | .cell c t => do loadVar t (← asAddr (a.tmps.getD c undef)) : Sem Value))).run P w = .ok rv w
  | [], ars, vs, hc, hs => by
    simp only [compRes, Option.some.injEq] at hc
    subst hc
    simp only [evRess, Option.some.injEq] at hs
    subst hs
    exact ⟨[], by simp [RepL], by simp⟩
  | .tmp t :: rs, ars, vs, hc, hs => by
    simp only [compRes] at hc
    split at hc
    · simp only [Option.map_eq_some_iff] at hc
      obtain ⟨r, hr, rfl⟩ := hc
      simp only [evRess, evRes1, Option.bind_some, Option.map_eq_some_iff] at hs
      obtain ⟨us, hu, rfl⟩ := hs
      obtain ⟨rv, h1, h2⟩ := res_run he R hr hu
      refine ⟨_ :: rv, by simp only [RepL]; exact ⟨_, _, rfl, he t, h1⟩, ?_⟩
      rw [List.mapM_cons]
      simp only [Sem.run_bind, Sem.run_pure, Result.andThen_ok, h2]
    · simp at hc
  | .cell c t :: rs, ars, vs, hc, hs => by
    simp only [compRes, Option.bind_eq_some_iff] at hc
    obtain ⟨n, hn, hc⟩ := hc
    split at hc
    · simp only [Option.map_eq_some_iff] at hc
      obtain ⟨r, hr, rfl⟩ := hc
      simp only [evRess, evRes1, Option.bind_eq_some_iff, Option.map_eq_some_iff] at hs
      obtain ⟨v, hv, us, hu, rfl⟩ := hs
      obtain ⟨rv, h1, h2⟩ := res_run he R hr hu
      obtain ⟨rx, h3, h4⟩ := load_run (P := P) R hn (he c) hv
      refine ⟨rx :: rv, by simp only [RepL]; exact ⟨_, _, rfl, h4, h1⟩, ?_⟩
      have hload : (do loadVar t (← asAddr (a.tmps.getD c undef)) : Sem Value).run P w = .ok rx w := by
        rw [loadV_eq, Option.bind_eq_some_iff] at hv
        obtain ⟨⟨cs, off⟩, hp, _⟩ := hv
        obtain ⟨b, o, hptr, _⟩ := R.cells hp (he c)
        rw [hptr] at h3 ⊢
        exact h3
      rw [List.mapM_cons]
      simp only [Sem.run_bind] at hload ⊢
      rw [hload]
      simp only [Sem.run_bind, Sem.run_pure, Result.andThen_ok, h2]
    · simp at hc

theorem results_run {G : Tie} {h : Heap} {en : Env} {a : Act} {w : World} {nt : Nat} {fn : Func} {ars : List ARes} {vs : List V} (he : RepEnv G en a.tmps) (R : Rel G h w) (hc : compRes P nt fn.results.toList = some ars) (hs : evRess en h ars = some vs) :
    ∃ r, (results fn a.tmps).run P w = .ok r w ∧ RepV G (oneOrTup vs) r := by
  obtain ⟨rv, h1, h2⟩ := res_run (P := P) he R hc hs
  refine ⟨if h : rv.toArray.size = 1 then rv.toArray[0] else .tuple rv.toArray, ?_, ?_⟩
  · unfold results
    rw [Array.mapM_eq_mapM_toList]
    rw [Sem.run_bind, Sem.run_map]
    erw [h2]
    rfl
  · have hl := h1.length
    unfold oneOrTup
    split
    · rename_i v
      simp only [RepL] at h1
      obtain ⟨r, rest, rfl, h3, rfl⟩ := h1
      simpa using h3
    · rename_i hne
      rw [dif_neg]
      · simp only [RepV]
        exact ⟨_, rfl, h1⟩
      · intro hsz
        simp only [List.size_toArray] at hsz
        rw [hl] at hsz
        match vs, hsz, hne with
        | [v], _, hne => exact hne v rfl
        | [], hsz, _ => simp at hsz
        | _ :: _ :: _, hsz, _ => simp at hsz

/-- A function's body is known. -/
structure FnOk (P : Program) (gl : Nat → Option (List V)) (quiet : FuncId → Nat) (f : FuncId) (A : AFunc) : Prop where
  fn : ∃ fn, P.funcs[f]? = some fn ∧ (fn.name == "runtime.NumGoroutine") = false ∧ compFunc P (glz A.frz A.bz A.br gl) quiet A.pure A.frz A.bz A.br fn = some A

theorem HeapOk.take {n m : Nat} {h : Heap} (ho : HeapOk n h) (hn : n ≤ m) : HeapOk n (h.take m) := by
  intro b hb
  have : (h.take m)[b]? = h[b]? := List.getElem?_take_of_lt (by omega)
  rw [this]
  exact ho b hb

theorem GlobOk.glz {G : Tie} {gl : Nat → Option (List V)} (h : GlobOk G gl) (z : Bool) (ts rs : List Nat) : GlobOk G (glz z ts rs gl) := by
  intro g cs e
  unfold Am.glz at e
  split at e
  · injection e with e
    subst e
    simp only [RepV]
    exact ⟨g, 0, rfl, by simp, by simp [RepF]⟩
  · exact h g cs e

theorem GlobOk.unglz {G : Tie} {gl : Nat → Option (List V)} {z : Bool} {ts rs : List Nat} (hz : ∀ g, lookNo ≤ g → gl g = none) (h : GlobOk G (Am.glz z ts rs gl)) : GlobOk G gl := by
  intro g cs e
  refine h g cs ?_
  unfold Am.glz
  rw [if_neg]
  · exact e
  · intro hc
    simp only [Bool.or_eq_true, Bool.and_eq_true, beq_iff_eq, List.any_eq_true] at hc
    have : lookNo ≤ g := by
      unfold rowNo at hc
      unfold lookNo at hc ⊢
      rcases hc with (hc | ⟨t, _, hc⟩) | ⟨t, _, hc⟩ <;> omega
    rw [hz g this] at e
    simp at e

theorem CallOk.glz {P : Program} {gl : Nat → Option (List V)} {call : CallF} (hz : ∀ g, lookNo ≤ g → gl g = none) (h : CallOk P gl call) (z : Bool) (ts rs : List Nat) : CallOk P (Am.glz z ts rs gl) call :=
  ⟨h.grow, fun base f args hh r h' hs hb G w vals hgl R hv => h.runs base f args hh r h' hs hb G w vals (hgl.unglz hz) R hv⟩

theorem func_grow {call : CallF} (hc : CallOk P gl call) {n base : Nat} {A : AFunc} {args : List V} {h h' : Heap} {v : V} (hb : base ≤ h.length) (hs : evFunc call n base A args h = some (v, h')) : Grow base h h' := by
  unfold evFunc at hs
  split at hs
  · simp only at hs
    split at hs
    · simp at hs
    · rename_i ex en h1 hno e1
      simp only [Option.bind_eq_some_iff] at hs
      obtain ⟨rs, _, hs⟩ := hs
      split at hs
      · rename_i hp
        simp only [hp, if_true] at e1
        have g := evC_grow hc (Nat.le_refl _) e1
        simp only [Option.map_eq_some_iff, Prod.mk.injEq] at hs
        obtain ⟨_, _, _, rfl⟩ := hs
        have g1 := g.1
        refine ⟨by simp; omega, fun m h1' h2 ho => ?_⟩
        exact (g.2 m h2 h2 ho).take h2
      · rename_i hp
        simp only [hp, Bool.false_eq_true, if_false] at e1
        injection hs with hs
        simp only [Prod.mk.injEq] at hs
        rw [← hs.2]
        exact evC_grow hc hb e1
    · simp at hs
  · simp at hs

theorem func_runs {quiet : FuncId → Nat} {call : CallF} (hq : QuietOk quiet call) (hc : CallOk P gl call) (hd : P.follows .mixedOrders = true) (hz : ∀ g, lookNo ≤ g → gl g = none) {n base : Nat} {f : FuncId} {A : AFunc} (hf : FnOk P gl quiet f A) {args : List V} {h h' : Heap} {r : V} (hb : base ≤ h.length)
    (hs : evFunc call n base A args h = some (r, h')) {G : Tie} {w : World} {vals : Array Value} (hgl : GlobOk G gl) (R : Rel G h w) (hv : RepL G args vals.toList) :
    CallsF P f vals w fun rv w' => ∃ G', Reach G w h' w' G' ∧ RepV G' r rv := by
  obtain ⟨fn, hfn, hname, hcf⟩ := hf.fn
  simp only [compFunc, Option.bind_eq_some_iff, Option.map_eq_some_iff] at hcf
  obtain ⟨c, hbody, ac, hac, ars, hars, hA⟩ := hcf
  replace hc := hc.glz hz A.frz A.bz A.br
  replace hgl := hgl.glz A.frz A.bz A.br
  unfold CallsF
  have henter : (callFunc f vals).run P w = .ok (.enter f vals) w := by
    have hname' : ¬ fn.name = "runtime.NumGoroutine" := by simpa using hname
    simp [callFunc, hfn, hname', hbody]
  rw [henter]
  simp only
  unfold evFunc at hs
  split at hs
  case isFalse => simp at hs
  rename_i hlen
  simp only at hs
  split at hs
  · simp at hs
  · rename_i ex en h1 hno e1
    simp only [Option.bind_eq_some_iff] at hs
    obtain ⟨rs, hres, hs⟩ := hs
    have hAb : A.body = ac := by rw [← hA]
    have hAr : A.results = ars := by rw [← hA]
    have hvl : vals.size = args.length := by rw [← Array.length_toList]; exact hv.length
    refine calls_of_wp hfn hbody ?_
    have he0 : RepEnv G (fun t => args.getD t .undef) (vals ++ Array.replicate (fn.ntmps - vals.size) undef) := by
      intro t
      by_cases ht : t < args.length
      · obtain ⟨rv, h2, h3⟩ := hv.get (i := t) (c := args[t]) (List.getElem?_eq_getElem ht)
        rw [Array.getElem?_toList] at h2
        have e2 : (vals ++ Array.replicate (fn.ntmps - vals.size) undef).getD t undef = rv := by
          have hlt : t < vals.size := by omega
          rw [Array.getElem?_eq_getElem hlt] at h2
          injection h2 with h2
          simp [Array.getD, hlt, h2]
          omega
        rw [e2]
        simpa [List.getD, ht] using h3
      · simp [List.getD, ht, RepV]
    have hcode : CodeOk P (glz A.frz A.bz A.br gl) (if A.pure then h.length else base) fn.ntmps c (fun en h0 => evC call (if A.pure then h.length else base) n A.body en h0) := by
      rw [hAb]
      exact code_wp hd hq hc hac
    refine hcode hgl he0 R (by split <;> omega) (by simp; omega) e1 fun a' w' G' hreach he' q1 q2 => ?_
    rw [hAr] at hres
    obtain ⟨rv, h2, h3⟩ := results_run (P := P) he' hreach.rel hars hres
    have fin : ∃ G'', Reach G w h' w' G'' ∧ RepV G'' r rv := by
      split at hs
      · rename_i hp
        simp only [hp, if_true] at e1 hs
        simp only [Option.map_eq_some_iff, Prod.mk.injEq] at hs
        obtain ⟨v', hfz, rfl, rfl⟩ := hs
        have g := evC_grow hc (Nat.le_refl _) e1
        have ho := g.2 h.length (Nat.le_refl _) (Nat.le_refl _) R.heapOk
        refine ⟨G'.cut h1 w' h.length, ⟨hreach.ext.cut hreach.rel R.n, hreach.rel.cut ho g.1, hreach.below⟩, (freeze_rep hreach.rel n).1 hfz h3⟩
      · injection hs with hs
        simp only [Prod.mk.injEq] at hs
        obtain ⟨rfl, rfl⟩ := hs
        exact ⟨G', hreach, h3⟩
    have hd0 : a'.defers = [] := q2
    cases ex with
    | normal => exact ⟨hd0, rv, h2, fin⟩
    | ret => exact ⟨hd0, rv, h2, fin⟩
    | exit id => exact absurd rfl (hno id)
  · simp at hs

/-- What an outside function is known by. -/
def ExtOk (P : Program) (gl : Nat → Option (List V)) (f : FuncId) (g : Nat → List V → Heap → Option (V × Heap)) : Prop :=
  (∀ base args h r h', g base args h = some (r, h') → base ≤ h.length → Grow base h h') ∧
  (∀ base args h r h', g base args h = some (r, h') → base ≤ h.length → ∀ G w vals, GlobOk G gl → Rel G h w → RepL G args vals.toList →
    CallsF P f vals w fun rv w' => ∃ G', Reach G w h' w' G' ∧ RepV G' r rv)

theorem call_ok {X : FuncId → Option (Nat → List V → Heap → Option (V × Heap))} {F : FuncId → Option AFunc} {quiet : FuncId → Nat} (hd : P.follows .mixedOrders = true) (hz : ∀ g, lookNo ≤ g → gl g = none) (hq : ∀ n, QuietOk quiet (evCall X F n))
    (hX : ∀ f g, X f = some g → ExtOk P gl f g) (hF : ∀ f A, F f = some A → FnOk P gl quiet f A) : ∀ n, CallOk P gl (evCall X F n)
  | 0 => ⟨fun _ _ _ _ _ _ hs => by simp [evCall] at hs, fun _ _ _ _ _ _ hs => by simp [evCall] at hs⟩
  | n + 1 => by
    have ih := call_ok hd hz hq hX hF n
    refine ⟨fun base f args h r h' hs hb => ?_, fun base f args h r h' hs hb G w vals hgl R hv => ?_⟩
    · unfold evCall at hs
      split at hs
      · rename_i g hg
        exact (hX f g hg).1 _ _ _ _ _ hs hb
      · split at hs
        · exact func_grow ih hb hs
        · simp at hs
    · unfold evCall at hs
      split at hs
      · rename_i g hg
        exact (hX f g hg).2 _ _ _ _ _ hs hb G w vals hgl R hv
      · split at hs
        · rename_i A hA
          exact func_runs (hq n) ih hd hz (hF f A hA) hb hs hgl R hv
        · simp at hs

end
end Go.Am
