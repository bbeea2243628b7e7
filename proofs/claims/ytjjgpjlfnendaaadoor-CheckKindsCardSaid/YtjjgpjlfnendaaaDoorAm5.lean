/- The abstract machine and what is proved in it, part 5. -/
import Derived.Test.YtjjgpjlfnendaaaDoorAm4
import Derived.MapKept
set_option linter.unusedVariables false
section
/- Am: one operation that is no call of a Go function, whole. -/
namespace Go.Am
open Go.RowKit (Below)
section
variable {P : Program} {gl : Nat → Option (List V)} {G : Tie} {en : Env} {h h' : Heap} {a : Act} {w : World} {o : Oper} {base : Nat} {v : V}
theorem some_pair {α β : Type} {x : Option α} {y : β} {p : α × β} (h : (x.map fun v => (v, y)) = some p) : x = some p.1 ∧ p.2 = y := by
  simp only [Option.map_eq_some_iff] at h
  obtain ⟨a, rfl, rfl⟩ := h
  exact ⟨rfl, rfl⟩
theorem mark_run (R : Rel G h w) (p : Addr) (hown : ∀ b, G.real h b ≠ some p.block) (hb0 : G.b0 ≤ p.block) (hkp : G.kp p.block = false) : ∃ w', (markStringish p).run P w = .ok () w' ∧ Rel G h w' ∧ Bel G w w' := by
  unfold markStringish
  cases hsh : w.shape? p.block with
  | none => exact ⟨w, by simp [hsh], R, Bel.refl _ _⟩
  | some q =>
    obtain ⟨e, n⟩ := q
    refine ⟨w.freeze ⟨p.block, n, none⟩ 1, by simp [hsh], ?_⟩
    have hother : ∀ c, c ≠ p.block → (w.freeze ⟨p.block, n, none⟩ 1).heap[c]? = w.heap[c]? := by
      intro c hc
      unfold World.freeze
      rw [if_neg (by omega)]
      simp [Array.getElem?_modify, Ne.symm hc]
    have hcell : ∀ c oo, (w.freeze ⟨p.block, n, none⟩ 1).cell? ⟨c, oo, none⟩ = w.cell? ⟨c, oo, none⟩ := by
      intro c oo
      by_cases hc : c = p.block
      · subst hc
        unfold World.cell? World.freeze
        rw [if_neg (by omega)]
        simp only [Array.getElem?_modify, if_true]
        cases hb : w.heap[p.block]? with
        | none => rfl
        | some ob =>
          cases ob <;> rfl
      · unfold World.cell?
        rw [hother c hc]
    have hreal : ∀ b k, G.real h b = some k → k ≠ p.block := fun b k hk e => hown b (e ▸ hk)
    have hsize : (w.freeze ⟨p.block, n, none⟩ 1).heap.size = w.heap.size := by
      unfold World.freeze
      rw [if_neg (by omega)]
      simp
    refine ⟨⟨R.n, fun b oo v hv => by rw [hcell]; exact R.fz b oo v hv, fun b t cs e => ?_, fun b t sz e rows eq => ?_, fun b es e => ?_, R.low, R.inj, ?_, fun k hk => ?_⟩, ?_, fun k hk => hother k (fun e => by rw [e, hkp] at hk; exact absurd hk (by simp))⟩
    · obtain ⟨h1, rs, h2, h3⟩ := R.box b t cs e
      refine ⟨h1, rs, ?_, h3⟩
      rw [hother _ (hreal b _ (by unfold Tie.real; rw [e]))]
      exact h2
    · obtain ⟨h0, L, rs, h1, h2, h3, h4, h5, h6⟩ := R.row b t sz e rows eq
      refine ⟨h0, L, rs, h1, h2, h3, h4, ?_, h6⟩
      rw [hother _ (hreal b _ (by unfold Tie.real; rw [eq]; simp [h1]))]
      exact h5
    · obtain ⟨l, clock, h1, h2⟩ := R.mp b es e
      refine ⟨l, clock, ?_, h2⟩
      rw [hother _ (hreal b _ (by unfold Tie.real; rw [e]))]
      exact h1
    · rw [hsize]; exact R.hb0
    · rw [hsize]; exact R.kp k hk
    · refine ⟨?_, ?_, ?_, by rw [hsize]; exact Nat.le_refl _, fun k hk => hother k (by omega)⟩ <;> (unfold World.freeze; rw [if_neg (by omega)])
theorem ifTab_inv {t : TypeId} {k : LK} (h : (ifTab P).lookup t = some k) : k = .i ∧ ∃ i j, P.info? t = some i ∧ i.comparable = true ∧ P.underlying t = some (.int j) := by
  have hm : (t, k) ∈ ifTab P := by
    generalize ifTab P = l at h
    induction l with
    | nil => simp at h
    | cons x l ih =>
      obtain ⟨a, kb⟩ := x
      rw [List.lookup_cons] at h
      split at h
      · rename_i e
        injection h with h
        have := eq_of_beq e
        subst this; subst h
        simp
      · exact List.mem_cons_of_mem _ (ih h)
  simp only [ifTab, List.mem_filterMap] at hm
  obtain ⟨u, _, hm⟩ := hm
  split at hm
  · rename_i i hi
    split at hm
    · rename_i hcmp
      split at hm
      · split at hm
        · rename_i j hj
          simp only [Option.some.injEq, Prod.mk.injEq] at hm
          obtain ⟨rfl, rfl⟩ := hm
          exact ⟨rfl, i, j, hi, hcmp, hj⟩
        · simp at hm
      · simp at hm
    · simp at hm
  · simp at hm
theorem sameIfc_run {op : BinOp} {t : TypeId} {ms : Array (String × TypeId)} {neg : Bool} {x y : V} {b : Bool} {rx ry : Value} (hop : op = if neg then .neq else .eql) (ht : P.underlying t = some (.interface ms))
    (hx : RepV G x rx) (hy : RepV G y ry) (hv : sameIfc (ifTab P) x y = some b) (ox oy : Operand) : (do eqGuard op t ox oy rx ry; binOp op t rx ry : Sem Value).run P w = .ok (.bool (if neg then !b else b)) w := by
  have key : ∀ (c : Bool), (eqGuard op t ox oy rx ry).run P w = .ok () w → (∀ d, (Op.equalIn (d + 2) t rx ry).run P w = .ok c w) → (∀ z : Bool, binOp (if z then .neq else .eql) t rx ry = (do let r ← Op.equal t rx ry; pure (.bool (if z then !r else r)) : Sem Value)) → b = c → (do eqGuard op t ox oy rx ry; binOp op t rx ry : Sem Value).run P w = .ok (.bool (if neg then !b else b)) w := by
    rintro c h1 h3 h5 rfl
    have h4 : (Op.equal t rx ry).run P w = .ok b w := by
      simp only [Op.equal, Op.maxDepth]
      exact h3 9998
    simp only [Sem.run_bind, h1, Result.andThen_ok]
    rw [hop, h5 neg]
    simp only [Sem.run_bind, h4, Result.andThen_ok, Sem.run_pure]
  unfold sameIfc at hv
  split at hv
  · rename_i u a
    injection hv with hv
    have := hx.sc_inv
    subst this
    simp only [RepV] at hy
    obtain ⟨rv, rfl, _⟩ := hy
    refine key false ?_ (fun d => by simp [Op.equalIn, run_underlying ht]) (fun z => by cases z <;> simp [binOp]) hv.symm
    cases neg <;> simp only [Bool.false_eq_true, if_false, if_true] at hop <;> subst hop <;> simp [eqGuard]
  · rename_i u a
    injection hv with hv
    have := hy.sc_inv
    subst this
    simp only [RepV] at hx
    obtain ⟨rv, rfl, _⟩ := hx
    refine key false ?_ (fun d => by simp [Op.equalIn, run_underlying ht]) (fun z => by cases z <;> simp [binOp]) hv.symm
    cases neg <;> simp only [Bool.false_eq_true, if_false, if_true] at hop <;> subst hop <;> simp [eqGuard]
  · rename_i u1 a1 u2 a2
    simp only [RepV] at hx hy
    obtain ⟨r1, rfl, h1⟩ := hx
    obtain ⟨r2, rfl, h2⟩ := hy
    have hg : (eqGuard op t ox oy (.iface u1 r1) (.iface u2 r2)).run P w = .ok () w := by
      cases neg <;> simp only [Bool.false_eq_true, if_false, if_true] at hop <;> subst hop <;> simp [eqGuard]
    have hb : ∀ z : Bool, binOp (if z then .neq else .eql) t (.iface u1 r1) (.iface u2 r2) = (do let r ← Op.equal t (.iface u1 r1) (.iface u2 r2); pure (.bool (if z then !r else r)) : Sem Value) := fun z => by cases z <;> simp [binOp]
    split at hv
    · rename_i hu
      subst hu
      simp only [Option.bind_eq_some_iff] at hv
      obtain ⟨k, hk, hv⟩ := hv
      obtain ⟨rfl, i, j, hi, hcmp, hj⟩ := ifTab_inv hk
      unfold eqCell at hv
      split at hv
      · rename_i k1 n1 k2 n2 _
        split at hv
        · rename_i hkk
          subst hkk
          injection hv with hv
          have q1 := h1.sc_inv
          have q2 := h2.sc_inv
          subst q1; subst q2
          exact key (n1 == n2) hg (fun d => by simp [Op.equalIn, run_underlying ht, run_underlying hj, typeInfo, hi, hcmp]) hb hv.symm
        · simp at hv
      · rename_i e; simp at e
      · rename_i e; simp at e
      · simp at hv
    · rename_i hu
      injection hv with hv
      exact key false hg (fun d => by rw [Op.equalIn]; simp only [Sem.run_bind, run_underlying ht, Result.andThen_ok, ne_eq, hu, not_false_eq_true, if_true, Sem.run_pure]) hb hv.symm
  · simp at hv
theorem nk_iface {d : TypeDesc} (h : nkOf d = some .iface) : ∃ ms, d = .interface ms := by
  unfold nkOf at h
  split at h
  · injection h with h; exact absurd h (by simp)
  · injection h with h; exact absurd h (by simp)
  · exact ⟨_, rfl⟩
  · injection h with h; exact absurd h (by simp)
  · injection h with h; exact absurd h (by simp)
  · simp at h
theorem ok_bin {op : BinOp} {t ty : TypeId} {x y : Operand} {ao : AOp} (hop : o.op = .binOp op t x y ty) (hgl : GlobOk G gl) (he : RepEnv G en a.tmps) (R : Rel G h w) (hc : compBin P gl op t x y = some ao)
    (hs : step base en h ao = some (v, h')) : OpOk P o a G h' w v := by
  simp only [compBin, Option.bind_eq_some_iff] at hc
  obtain ⟨d, hd, x', hx, y', hy, hc⟩ := hc
  have hrx := opd_rep hgl he hx
  have hry := opd_rep hgl he hy
  have hbin : ao = .bin op x' y' → OpOk P o a G h' w v := by
    rintro rfl
    simp only [step] at hs
    obtain ⟨h1, h2⟩ := some_pair hs
    simp only at h1 h2
    subst h2
    obtain ⟨r, h3, h4⟩ := bin_run (P := P) (w := w) (t := t) (ox := x) (oy := y) hrx hry h1
    exact OpOk.quiet R (by simp only [execOp, hop]) h3 h4
  have hbool : ∀ neg, op = (if neg then .neq else .eql) → P.underlying t = some .bool → ao = .eqBool neg x' y' → OpOk P o a G h' w v := by
    rintro neg hopn ht rfl
    simp only [step] at hs
    split at hs
    · rename_i p q ep eq
      injection hs with hs
      simp only [Prod.mk.injEq] at hs
      obtain ⟨rfl, rfl⟩ := hs
      rw [ep] at hrx
      rw [eq] at hry
      have h3 := eqBool_run (P := P) (w := w) (neg := neg) (p := p) (q := q) (ox := x) (oy := y) ht
      rw [← hrx.sc_inv, ← hry.sc_inv, ← hopn] at h3
      exact OpOk.quiet R (by simp only [execOp, hop]) h3 (RepV.bool _ _)
    · simp at hs
  have hnil : ∀ neg k, op = (if neg then .neq else .eql) → nkOf d = some k → (isNilK k y = true ∧ ao = .isNil neg k x') ∨ (isNilK k x = true ∧ ao = .isNil neg k y') → OpOk P o a G h' w v := by
    intro neg k hopn hk hor
    have hnilv : ∀ z : Operand, isNilK k z = true → z = .const k.nilV := by
      intro z hz
      unfold isNilK at hz
      split at hz <;> first | rfl | simp at hz
    have hstep : ∀ z', ao = .isNil neg k z' → ∃ b, isNil k (z'.get en) = some b ∧ v = .bool (if neg then !b else b) ∧ h' = h := by
      rintro z' rfl
      simp only [step, Option.map_eq_some_iff, Prod.mk.injEq] at hs
      obtain ⟨b, h1, h2, h3⟩ := hs
      exact ⟨b, h1, h2.symm, h3.symm⟩
    rcases hor with ⟨hz, hao⟩ | ⟨hz, hao⟩
    · obtain ⟨b, h1, rfl, rfl⟩ := hstep _ hao
      have e := hnilv _ hz
      have h3 := (isNil_run (P := P) (w := w) (neg := neg) hd hk hrx h1 x y (.inr ⟨_, e⟩)).1
      have ey : a.eval y = k.nilV := by rw [e]; rfl
      rw [← hopn, ← ey] at h3
      exact OpOk.quiet R (by simp only [execOp, hop]) h3 (RepV.bool _ _)
    · obtain ⟨b, h1, rfl, rfl⟩ := hstep _ hao
      have e := hnilv _ hz
      have h3 := (isNil_run (P := P) (w := w) (neg := neg) hd hk hry h1 x y (.inl ⟨_, e⟩)).2
      have ex : a.eval x = k.nilV := by rw [e]; rfl
      rw [← hopn, ← ex] at h3
      exact OpOk.quiet R (by simp only [execOp, hop]) h3 (RepV.bool _ _)
  have hifc : ∀ neg, op = (if neg then .neq else .eql) → nkOf d = some .iface → ao = .eqIfc neg (ifTab P) x' y' → OpOk P o a G h' w v := by
    rintro neg hopn hk rfl
    obtain ⟨ms, rfl⟩ := nk_iface hk
    simp only [step, Option.map_eq_some_iff, Prod.mk.injEq] at hs
    obtain ⟨b, h1, rfl, rfl⟩ := hs
    have h3 := sameIfc_run (P := P) (w := w) hopn hd hrx hry h1 x y
    exact OpOk.quiet R (by simp only [execOp, hop]) h3 (RepV.bool _ _)
  split at hc
  · injection hc with hc; exact hbin hc.symm
  · injection hc with hc; exact hbin hc.symm
  · split at hc
    · injection hc with hc; exact hbool false rfl hd hc.symm
    · injection hc with hc; exact hbool true rfl hd hc.symm
    · simp at hc
  · rename_i te
    split at hc
    · split at hc
      · split at hc
        · rename_i hz; injection hc with hc; exact hnil false .ptr rfl rfl (.inl ⟨hz, hc.symm⟩)
        · split at hc
          · rename_i hz; injection hc with hc; exact hnil false .ptr rfl rfl (.inr ⟨hz, hc.symm⟩)
          · simp at hc
      · split at hc
        · rename_i hz; injection hc with hc; exact hnil true .ptr rfl rfl (.inl ⟨hz, hc.symm⟩)
        · split at hc
          · rename_i hz; injection hc with hc; exact hnil true .ptr rfl rfl (.inr ⟨hz, hc.symm⟩)
          · simp at hc
      · simp at hc
    · simp only [Option.bind_eq_some_iff] at hc
      obtain ⟨s, hz, hc⟩ := hc
      split at hc
      · simp at hc
      · rename_i h0
        have fin : ∀ neg, op = (if neg then .neq else .eql) → ao = .eqPtr neg x' y' → OpOk P o a G h' w v := by
          rintro neg hopn rfl
          simp only [step, Option.map_eq_some_iff, Prod.mk.injEq] at hs
          obtain ⟨b, h1, rfl, rfl⟩ := hs
          have h3 := samePtr_run (P := P) R hopn hd hz h0 hrx hry h1 x y
          exact OpOk.quiet R (by simp only [execOp, hop]) h3 (RepV.bool _ _)
        split at hc
        · injection hc with hc; exact fin false rfl hc.symm
        · injection hc with hc; exact fin true rfl hc.symm
        · simp at hc
  · simp only [Option.bind_eq_some_iff] at hc
    obtain ⟨k, hk, hc⟩ := hc
    split at hc
    · split at hc
      · rename_i hz; injection hc with hc; exact hnil false k rfl hk (.inl ⟨hz, hc.symm⟩)
      · split at hc
        · rename_i hz; injection hc with hc; exact hnil false k rfl hk (.inr ⟨hz, hc.symm⟩)
        · split at hc
          · rename_i hki; injection hc with hc; exact hifc false rfl (hki ▸ hk) hc.symm
          · simp at hc
    · split at hc
      · rename_i hz; injection hc with hc; exact hnil true k rfl hk (.inl ⟨hz, hc.symm⟩)
      · split at hc
        · rename_i hz; injection hc with hc; exact hnil true k rfl hk (.inr ⟨hz, hc.symm⟩)
        · split at hc
          · rename_i hki; injection hc with hc; exact hifc true rfl (hki ▸ hk) hc.symm
          · simp at hc
    · simp at hc
theorem ok_conv {src dst : TypeId} {x : Operand} {ao : AOp} (hop : o.op = .convert src dst x) (hgl : GlobOk G gl) (he : RepEnv G en a.tmps) (R : Rel G h w) (hc : compConv P gl src dst x = some ao)
    (hs : step base en h ao = some (v, h')) : OpOk P o a G h' w v := by
  simp only [compConv, Option.bind_eq_some_iff] at hc
  obtain ⟨s, hsrc, d, hdst, x', hx, hc⟩ := hc
  have hrx := opd_rep hgl he hx
  split at hc
  · rename_i k0 k
    injection hc with hc
    subst hc
    simp only [step] at hs
    split at hs
    · rename_i j n e
      injection hs with hs
      simp only [Prod.mk.injEq] at hs
      obtain ⟨rfl, rfl⟩ := hs
      rw [e] at hrx
      refine OpOk.quiet (s := convert src dst (a.eval x)) R (by simp only [execOp, hop]) ?_ (RepV.int _ _ _)
      rw [hrx.sc_inv]
      simp [convert, run_underlying hsrc, run_underlying hdst, Conv.intToInt]
    · simp at hs
  · injection hc with hc
    subst hc
    simp only [step] at hs
    split at hs
    · rename_i s e
      injection hs with hs
      simp only [Prod.mk.injEq] at hs
      obtain ⟨rfl, rfl⟩ := hs
      rw [e] at hrx
      refine OpOk.quiet (s := convert src dst (a.eval x)) R (by simp only [execOp, hop]) ?_ (RepV.str _ _)
      rw [hrx.sc_inv]
      simp [convert, run_underlying hsrc, run_underlying hdst]
    · simp at hs
  · split at hc
    · rename_i e he'
      injection hc with hc
      subst hc
      simp only [step, Option.bind_eq_some_iff, Option.map_eq_some_iff, Prod.mk.injEq] at hs
      obtain ⟨rows, h1, l, h2, rfl, rfl⟩ := hs
      exact ok_strOf hop hgl he R hsrc hdst he' hx h1 h2
    · simp at hc
  · split at hc
    · rename_i e he'
      injection hc with hc
      subst hc
      simp only [step] at hs
      split at hs
      · rename_i s es
        split at hs
        · injection hs with hs
          simp only [Prod.mk.injEq] at hs
          obtain ⟨rfl, rfl⟩ := hs
          exact ok_bytesOf hop hgl he R hsrc hdst he' hx es
        · simp at hs
      · simp at hs
    · simp at hc
  · rename_i e0 e
    split at hc
    · rename_i esd
      subst esd
      split at hc
      · rename_i he'
        injection hc with hc
        subst hc
        simp only [step] at hs
        split at hs
        · rename_i r rs es
          injection hs with hs
          simp only [Prod.mk.injEq] at hs
          obtain ⟨rfl, rfl⟩ := hs
          rw [es] at hrx
          have hV := hrx
          simp only [RepV] at hrx
          obtain ⟨aa, cap, hr, hr1, hr2, hr3, b, oo, ha, hb0, hR⟩ := hrx
          rw [ha (by simp)] at hr
          have hee : e0 = e := by
            rw [hsrc] at hdst
            injection hdst with hdst
            injection hdst
          subst hee
          have hf : ∃ u, G.fz b oo = some u := by
            simp only [RepRows] at hR
            obtain ⟨h1, h2, _⟩ := hR
            cases r with
            | nil => simp at h1
            | cons c r =>
              simp only [RepF] at h2
              obtain ⟨⟨u, hu, _⟩, _⟩ := h2
              exact ⟨u, hu⟩
          obtain ⟨w', hm, hR', hbl⟩ := mark_run (P := P) R ⟨b, oo, none⟩ (fun k hk => by
            obtain ⟨u, hu⟩ := hf
            rw [(R.low k _ hk).2 oo] at hu
            simp at hu) (hb0 trivial (by simp)) (by
            cases hkc : G.kp b with
            | false => rfl
            | true =>
              obtain ⟨u, hu⟩ := hf
              rw [(R.kp b hkc).2.1 oo] at hu
              simp at hu)
          refine OpOk.value (s := convert src src (a.eval x)) (r := a.eval x) (w' := w') (by simp only [execOp, hop]) ?_ (Ext.refl G) hR' hV hbl
          rw [hr]
          simp [convert, run_underlying hsrc, run_underlying he', hm]
        · simp at hs
      · simp at hc
    · simp at hc
  · simp only [Option.bind_eq_some_iff] at hc
    obtain ⟨z, hz, hc⟩ := hc
    split at hc
    · simp at hc
    · rename_i h0
      injection hc with hc
      subst hc
      simp only [step] at hs
      obtain ⟨h1, h2⟩ := some_pair hs
      simp only at h1 h2
      subst h2
      obtain ⟨h3, h4⟩ := uncast_run (P := P) R hsrc hdst hz h0 hrx h1
      exact OpOk.quiet R (by simp only [execOp, hop]) h3 h4
  · simp only [Option.bind_eq_some_iff] at hc
    obtain ⟨z, hz, hc⟩ := hc
    split at hc
    · rename_i hl
      injection hc with hc
      subst hc
      simp only [step] at hs
      obtain ⟨h1, h2⟩ := some_pair hs
      simp only at h1 h2
      subst h2
      obtain ⟨h3, h4⟩ := cast_run (P := P) R hsrc hdst hz hl hrx h1
      exact OpOk.quiet R (by simp only [execOp, hop]) h3 h4
    · simp at hc
  · simp at hc
end
end Go.Am
end
section
/- Am: maps. -/
namespace Go.Am
open Go.RowKit (Below)
section
variable {P : Program} {gl : Nat → Option (List V)} {G : Tie} {en : Env} {h h' : Heap} {a : Act} {w : World} {o : Oper} {base : Nat} {v : V}
theorem keyIs_inv {kt : TypeId} {kd : LK} {k : V} {r key : Value} (hk : keyKind P kt = some kd) (hr : RepV G k r) (hi : keyIs kd k = some key) : ∃ d, P.underlying kt = some d ∧ MapKept.IsKey d key ∧ r = key := by
  unfold keyKind at hk
  split at hk
  · rename_i hd
    injection hk with hk
    subst hk
    unfold keyIs at hi
    split at hi
    all_goals try (exfalso; simp_all; done)
    rename_i a e1 e2
    injection hi with hi
    exact ⟨_, hd, by rw [← hi]; simp [MapKept.IsKey], by rw [hr.sc_inv, hi]⟩
  · rename_i hd
    injection hk with hk
    subst hk
    unfold keyIs at hi
    split at hi
    all_goals try (exfalso; simp_all; done)
    rename_i a e1 e2
    injection hi with hi
    exact ⟨_, hd, by rw [← hi]; simp [MapKept.IsKey], by rw [hr.sc_inv, hi]⟩
  · rename_i hd
    injection hk with hk
    subst hk
    unfold keyIs at hi
    split at hi
    all_goals try (exfalso; simp_all; done)
    rename_i a e1 e2
    injection hi with hi
    exact ⟨_, hd, by rw [← hi]; simp [MapKept.IsKey], by rw [hr.sc_inv, hi]⟩
  · simp at hk
theorem keyEq_same {d : TypeDesc} {key y : Value} {t : Bool} (hk : MapKept.IsKey d key) (he : keyEq key y = some t) : Instr.sameNow d key y = some t := by
  unfold keyEq at he
  split at he
  · cases d <;> simp [MapKept.IsKey] at hk
    simpa [Instr.sameNow] using he
  · cases d <;> simp [MapKept.IsKey] at hk
    simpa [Instr.sameNow] using he
  · cases d <;> simp [MapKept.IsKey] at hk
    simpa [Instr.sameNow] using he
  · simp at he
theorem keyEq_eq {key y : Value} (he : keyEq key y = some true) : key = y := by
  unfold keyEq at he
  split at he
  · injection he with he
    rw [(MapKept.bytes_beq _ _).1 he]
  · split at he
    · rename_i hk
      injection he with he
      simp at he
      rw [hk, he]
    · simp at he
  · injection he with he
    simp at he
    rw [he]
  · simp at he
theorem findM_run {d : TypeDesc} {key : Value} (hk : MapKept.IsKey d key) : ∀ {es : List (Value × V)} {l : List MapEntry} {i : Nat} {r : Option (Nat × V)}, RepM G es l → findM key es i = some r →
    (r = none ∧ Instr.findNow d key l i = some none) ∨ ∃ j v x, r = some (i + j, v) ∧ l[j]? = some x ∧ x.key = key ∧ RepV G v x.val ∧ Instr.findNow d key l i = some (some (i + j, x.val))
  | [], l, i, r, hR, hf => by
    simp only [RepM] at hR
    subst hR
    simp only [findM, Option.some.injEq] at hf
    exact .inl ⟨hf.symm, rfl⟩
  | e :: es, l, i, r, hR, hf => by
    simp only [RepM] at hR
    obtain ⟨x, rest, rfl, h1, h2, h3⟩ := hR
    unfold findM at hf
    split at hf
    · rename_i he
      injection hf with hf
      have hs := keyEq_same hk he
      rw [← h1] at hs
      exact .inr ⟨0, e.2, x, hf.symm, rfl, by rw [h1, keyEq_eq he], h2, by simp [Instr.findNow, hs]⟩
    · rename_i he
      have hs := keyEq_same hk he
      rw [← h1] at hs
      rcases findM_run hk h3 hf with ⟨q1, q2⟩ | ⟨j, v, y, q1, q2, q3, q4, q5⟩
      · exact .inl ⟨q1, by simp [Instr.findNow, hs, q2]⟩
      · exact .inr ⟨j + 1, v, y, by rw [q1]; congr 2; omega, by simpa using q2, q3, q4, by simp [Instr.findNow, hs, q5]; omega⟩
    · simp at hf
theorem zeroV_run {t : TypeId} {z : V} (hz : zeroV P t = some z) (w : World) : ∃ r, (zeroValue t).run P w = .ok r w ∧ RepV G z r := by
  simp only [zeroV, Option.bind_eq_some_iff] at hz
  obtain ⟨r, ⟨i, hi, hz⟩, hv⟩ := hz
  exact ⟨r, by simp [zeroValue, typeInfo, hi, hz], valOf_rep hv⟩
theorem ok_makeMap {t : TypeId} (hop : o.op = .makeMap t none) (R : Rel G h w) : OpOk P o a G (h ++ [.mmap []]) w (.mp h.length) := by
  refine OpOk.value (s := Instr.makeMap t none) (r := .map (some w.heap.size)) (w' := w.alloc (.map #[] 0)) (by simp only [execOp, hop, Option.map_none]) (by simp [Instr.makeMap]) (Ext.newBox G w.heap.size) R.newMap ?_ (bel_alloc R _)
  simp [RepV, Tie.newBox, R.n]
theorem ok_lookup {t kt et : TypeId} {m k : Operand} {ok : Bool} {m' k' : Opd} {kd : LK} {z : V} (hop : o.op = .lookup t m k ok) (hgl : GlobOk G gl) (he : RepEnv G en a.tmps) (R : Rel G h w) (ht : P.underlying t = some (.map kt et)) (hkd : keyKind P kt = some kd) (hz : zeroV P et = some z)
    (hm : opd gl m = some m') (hk : opd gl k = some k') (hs : step base en h (.lookup kd z ok m' k') = some (v, h')) : OpOk P o a G h' w v := by
  simp only [step, Option.map_eq_some_iff, Prod.mk.injEq] at hs
  obtain ⟨⟨u, f⟩, h1, rfl, rfl⟩ := hs
  unfold lookupV at h1
  simp only [Option.bind_eq_some_iff] at h1
  obtain ⟨key, hkey, h1⟩ := h1
  obtain ⟨d, hd, hik, hrk⟩ := keyIs_inv hkd (opd_rep hgl he hk) hkey
  have hrm := opd_rep hgl he hm
  obtain ⟨rz, hzr, hzv⟩ := zeroV_run (G := G) hz w
  have fin : ∀ (rv : Value), RepV G u rv → (Instr.lookup t (a.eval m) (a.eval k) ok).run P w = .ok (if ok then .tuple #[rv, .bool f] else rv) w → OpOk P o a G h w (if ok then V.tup [u, .bool f] else u) := by
    intro rv hv hrun
    refine OpOk.quiet R (by simp only [execOp, hop]) hrun ?_
    cases ok
    · exact hv
    · simp only [if_true, RepV]
      exact ⟨_, rfl, by simp only [RepL]; exact ⟨_, _, rfl, hv, _, _, rfl, RepV.bool _ _, rfl⟩⟩
  split at h1
  · rename_i em
    rw [em] at hrm
    injection h1 with h1
    simp only [Prod.mk.injEq] at h1
    obtain ⟨rfl, rfl⟩ := h1
    have hrm := hrm.sc_inv
    have hc : (Instr.checkKey true 10000 kt key).run P w = .ok () w := MapKept.run_checkKey hd hik true 9999
    have hf : (Instr.findKey kt key []).run P w = .ok none w := MapKept.run_findKey hd rfl
    refine fin rz hzv ?_
    rw [hrm, hrk]
    cases ok <;> simp [Instr.lookup, run_underlying ht, hc, hf, hzr, Result.andThen]
  · rename_i b em
    rw [em] at hrm
    split at h1
    · rename_i es eb
      simp only [Option.map_eq_some_iff] at h1
      obtain ⟨r, hr, h1⟩ := h1
      obtain ⟨l, clock, hw, hR⟩ := R.mp b es eb
      simp only [RepV] at hrm
      obtain ⟨_, hrm⟩ := hrm
      have hc : ∀ e, (Instr.checkKey e 10000 kt key).run P w = .ok () w := fun e => MapKept.run_checkKey hd hik e 9999
      rcases findM_run hik hR hr with ⟨rfl, q2⟩ | ⟨j, v2, x, rfl, q2, q3, q4, q5⟩
      · simp only [Prod.mk.injEq] at h1
        obtain ⟨rfl, rfl⟩ := h1
        have hf := MapKept.run_findKey (P := P) (w := w) hd q2
        refine fin rz hzv ?_
        rw [hrm, hrk]
        cases ok <;> simp [Instr.lookup, run_underlying ht, MapKept.run_getObj_map hw, hc, hf, hzr, Result.andThen]
      · simp only [Prod.mk.injEq] at h1
        obtain ⟨rfl, rfl⟩ := h1
        have hf := MapKept.run_findKey (P := P) (w := w) hd q5
        refine fin x.val q4 ?_
        rw [hrm, hrk]
        cases ok <;> simp [Instr.lookup, run_underlying ht, MapKept.run_getObj_map hw, hc, hf, Result.andThen]
    · simp at h1
  · simp at h1
theorem sameBits_key {d : TypeDesc} {key : Value} (hk : MapKept.IsKey d key) : Instr.sameBits 10000 key key = true := by
  cases d <;> cases key <;> simp_all [MapKept.IsKey, Instr.sameBits]
  exact (MapKept.bytes_beq _ _).2 rfl
theorem ok_mapUpdate {t kt et : TypeId} {m k x : Operand} {m' k' x' : Opd} {kd : LK} (hop : o.op = .mapUpdate t m k x ∨ o.op = .insert t m k x) (hgl : GlobOk G gl) (he : RepEnv G en a.tmps) (R : Rel G h w) (ht : P.underlying t = some (.map kt et)) (hkd : keyKind P kt = some kd)
    (hm : opd gl m = some m') (hk : opd gl k = some k') (hx : opd gl x = some x') (hs : step base en h (.mapUpdate kd m' k' x') = some (v, h')) : OpOk P o a G h' w v := by
  simp only [step, Option.map_eq_some_iff, Prod.mk.injEq] at hs
  obtain ⟨h2, h1, rfl, rfl⟩ := hs
  unfold updateV at h1
  simp only [Option.bind_eq_some_iff] at h1
  obtain ⟨key, hkey, h1⟩ := h1
  obtain ⟨d, hd, hik, hrk⟩ := keyIs_inv hkd (opd_rep hgl he hk) hkey
  have hrm := opd_rep hgl he hm
  have hrx := opd_rep hgl he hx
  split at h1
  · rename_i b em
    rw [em] at hrm
    split at h1
    · rename_i es eb
      split at h1
      · rename_i hcond
        simp only [Option.map_eq_some_iff] at h1
        obtain ⟨r, hr, h1⟩ := h1
        obtain ⟨l, clock, hw, hR⟩ := R.mp b es eb
        simp only [RepV] at hrm
        obtain ⟨_, hrm⟩ := hrm
        have hreal : G.real h b = some (G.bx b) := by unfold Tie.real; rw [eb]
        have hc : (Instr.checkKey false 10000 kt key).run P w = .ok () w := MapKept.run_checkKey hd hik false 9999
        have hlt : G.bx b < w.heap.size := R.lt hreal
        have fin : ∀ (l' : Array MapEntry) (clock' : Nat) (es' : List (Value × V)), (Instr.mapUpdate t (a.eval m) (a.eval k) (a.eval x)).run P w = .ok () { w with heap := w.heap.setIfInBounds (G.bx b) (.map l' clock') } →
            RepM G es' l'.toList → OpOk P o a G (h.set b (.mmap es')) w .undef := by
          intro l' clock' es' hrun hR'
          refine ⟨undef, _, G, .inr ⟨?_, rfl⟩, Ext.refl G, R.setMap (w' := { w with heap := w.heap.setIfInBounds (G.bx b) (.map l' clock') }) eb (by simp) ?_ (clock := clock') (by simp [hlt]) hR', by simp [RepV], ⟨⟨rfl, rfl, rfl, by simp, ?_⟩, ?_⟩⟩
          · rcases hop with hop | hop <;> simp only [execOp, hop, Sem.run_bind, hrun, Result.andThen_ok] <;> rfl
          · intro c hc _
            simp [Ne.symm hc]
          · intro c hc
            have := (R.low b _ hreal).1
            simp [show ¬ G.bx b = c by omega]
          · intro c hc
            have : ¬ G.bx b = c := fun e => by rw [← e, R.kp_of hreal] at hc; exact absurd hc (by simp)
            simp [this]
        rcases findM_run hik hR hr with ⟨rfl, q2⟩ | ⟨j, v2, y, rfl, q2, q3, q4, q5⟩
        · simp only at h1
          subst h1
          have hf := MapKept.run_findKey (P := P) (w := w) hd q2
          refine fin (l.push { key, val := a.eval x, born := clock }) (clock + 1) _ ?_ ?_
          · rw [hrm, hrk]
            simp [Instr.mapUpdate, run_underlying ht, MapKept.run_getObj_map hw, hc, hf, MapKept.run_setObj_map _ hw, Result.andThen]
          · rw [Array.toList_push]
            exact RepM.snoc rfl hrx hR
        · simp only [Nat.zero_add] at h1
          subst h1
          have hf := MapKept.run_findKey (P := P) (w := w) hd q5
          have hkeep : (Instr.keyThatStays key key).run P w = .ok key w := by
            simp [Instr.keyThatStays, sameBits_key hik]
          have hy : l[j]? = some y := by rw [← Array.getElem?_toList]; exact q2
          refine fin (l.modify j fun e => { e with key, val := a.eval x }) clock _ ?_ ?_
          · rw [hrm, hrk]
            simp only [Nat.zero_add] at hf
            simp [Instr.mapUpdate, run_underlying ht, MapKept.run_getObj_map hw, hc, hf, hy, q3, hkeep, MapKept.run_setObj_map _ hw, Result.andThen]
          · have hm : (l.modify j fun e => { e with key, val := a.eval x }).toList = l.toList.set j { y with key, val := a.eval x } := by
              apply List.ext_getElem?
              intro n
              simp only [Array.getElem?_toList, Array.getElem?_modify, List.getElem?_set]
              by_cases hn : j = n
              · subst hn
                obtain ⟨hl, hl2⟩ := Array.getElem?_eq_some_iff.1 hy
                simp [hl, hl2]
              · simp [hn]
            rw [hm]
            exact RepM.set rfl hrx hR
      · simp at h1
    · simp at h1
  · simp at h1
theorem lenM_run {t kt et ty : TypeId} {x : V} {r : Value} {n : Nat} (R : Rel G h w) (ht : P.underlying t = some (.map kt et)) (hx : RepV G x r) (hv : lenMV h x = some n) : (Builtin.len_ #[t] ty #[r]).run P w = .ok (.int .i64 n) w := by
  unfold lenMV at hv
  split at hv
  · injection hv with hv
    subst hv
    have := hx.sc_inv
    subst this
    simp [Builtin.len_, run_underlying ht, goInt]
  · rename_i b
    split at hv
    · rename_i es eb
      injection hv with hv
      subst hv
      obtain ⟨l, clock, hw, hR⟩ := R.mp b es eb
      simp only [RepV] at hx
      obtain ⟨_, rfl⟩ := hx
      have := hR.length
      simp only [Array.length_toList] at this
      simp [Builtin.len_, run_underlying ht, MapKept.run_getObj_map hw, goInt, this, Result.andThen]
    · simp at hv
  · simp at hv
end
end Go.Am
end
section
/- Am: one operation that is no call of a Go function, whole: slices, builtins; and all together. -/
namespace Go.Am
open Go.RowKit (Below)
section
variable {P : Program} {gl : Nat → Option (List V)} {G : Tie} {en : Env} {h h' : Heap} {a : Act} {w : World} {o : Oper} {base : Nat} {v : V}
theorem ok_sliceStr {t : TypeId} {x : Operand} {lo hi : Option Operand} {x' : Opd} {lo' hi' : Option Opd} (hop : o.op = .slice t x lo hi none) (hgl : GlobOk G gl) (he : RepEnv G en a.tmps) (R : Rel G h w) (ht : P.underlying t = some .string)
    (hx : opd gl x = some x') (hl : opdO gl lo = some lo') (hh : opdO gl hi = some hi') (hs : step base en h (.sliceStr x' lo' hi') = some (v, h')) : OpOk P o a G h' w v := by
  have hrx := opd_rep hgl he hx
  simp only [step] at hs
  split at hs
  · rename_i s es
    simp only [Option.bind_eq_some_iff] at hs
    obtain ⟨l, h1, e, h2, hs⟩ := hs
    split at hs
    · rename_i hc
      injection hs with hs
      simp only [Prod.mk.injEq] at hs
      obtain ⟨rfl, rfl⟩ := hs
      rw [es] at hrx
      have h3 := sliceStr_run (P := P) (w := w) ht (boundO_OB hgl he hl h1) (boundO_OB hgl he hh h2) hc.1 hc.2
      rw [← hrx.sc_inv] at h3
      exact OpOk.quiet R (by simp only [execOp, hop, Option.map_none]) h3 (RepV.str _ _)
    · simp at hs
  · simp at hs
theorem ok_slice {t e : TypeId} {sz : Nat} {x : Operand} {lo hi mx : Option Operand} {x' : Opd} {lo' hi' mx' : Option Opd} (hop : o.op = .slice t x lo hi mx) (hgl : GlobOk G gl) (he : RepEnv G en a.tmps) (R : Rel G h w)
    (ht : P.underlying t = some (.slice e)) (hg : growElem P e = some sz)
    (hx : opd gl x = some x') (hl : opdO gl lo = some lo') (hh : opdO gl hi = some hi') (hm : opdO gl mx = some mx') (hs : step base en h (.slice sz x' lo' hi' mx') = some (v, h')) : OpOk P o a G h' w v := by
  have hrx := opd_rep hgl he hx
  obtain ⟨i, z, hi1, hz1, rfl, _⟩ := growElem_inv hg
  have hsz : sizeO P e = some i.size := by simp [sizeO, hi1]
  simp only [step, Option.bind_eq_some_iff] at hs
  obtain ⟨l, h1, hs⟩ := hs
  have hlo := boundO_OB hgl he hl h1
  have some_inv : ∀ {q : Option Operand} {y : Opd}, opdO gl q = some (some y) → ∃ z, q = some z ∧ opd gl z = some y := by
    intro q y hq
    cases q with
    | none => simp [opdO] at hq
    | some z =>
      simp only [opdO, Option.map_eq_some_iff, Option.some.injEq] at hq
      obtain ⟨u, hu, rfl⟩ := hq
      exact ⟨z, rfl, hu⟩
  have none_inv : ∀ {q : Option Operand}, opdO gl q = some none → q = none := by
    intro q hq
    cases q with
    | none => rfl
    | some z => simp [opdO] at hq
  have fin : ∀ {hin mxn : Option Nat}, (∀ d, OB d (hi.map a.eval) (hin.getD d)) → (∀ d, OB d (mx.map a.eval) (mxn.getD d)) → (hi.map a.eval = none → mx.map a.eval = none) → (mxn = none ↔ mx.map a.eval = none) → (hin = none → mxn = none) →
      sliceV h i.size (x'.get en) l hin mxn = some (v, h') → OpOk P o a G h' w v := by
    intro hin mxn a1 a2 a3 a4 a5 hv
    obtain ⟨r, G', h3, h4, h5, h6⟩ := sliceV_run R ht hsz hrx hlo a1 a2 a3 a4 a5 hv
    exact OpOk.value (by simp only [execOp, hop]) h3 h4 h5 h6 (Bel.refl _ _)
  split at hs
  · have e1 := none_inv hh
    have e2 := none_inv hm
    subst e1; subst e2
    exact fin (fun d => .inl ⟨rfl, rfl⟩) (fun d => .inl ⟨rfl, rfl⟩) (fun _ => rfl) (by simp) (fun _ => rfl) hs
  · rename_i eo
    have e2 := none_inv hm
    obtain ⟨z1, rfl, hz⟩ := some_inv hh
    subst e2
    simp only [Option.bind_eq_some_iff] at hs
    obtain ⟨en1, h2, hs⟩ := hs
    obtain ⟨k, i1, b1, b2, b3⟩ := asNat_run (opd_rep hgl he hz) h2
    exact fin (fun d => .inr ⟨k, i1, by simp [b1], b2, by simpa using b3⟩) (fun d => .inl ⟨rfl, rfl⟩) (fun _ => rfl) (by simp) (fun _ => rfl) hs
  · rename_i eo mo
    obtain ⟨z1, rfl, hz⟩ := some_inv hh
    obtain ⟨z2, rfl, hz2⟩ := some_inv hm
    simp only [Option.bind_eq_some_iff] at hs
    obtain ⟨en1, h2, m, h3, hs⟩ := hs
    obtain ⟨k, i1, b1, b2, b3⟩ := asNat_run (opd_rep hgl he hz) h2
    obtain ⟨k', i2, c1, c2, c3⟩ := asNat_run (opd_rep hgl he hz2) h3
    exact fin (fun d => .inr ⟨k, i1, by simp [b1], b2, by simpa using b3⟩) (fun d => .inr ⟨k', i2, by simp [c1], c2, by simpa using c3⟩) (by simp) (by simp) (by simp) hs
  · simp at hs
theorem ok_sliceArr {t e : TypeId} {n sz : Nat} {x : Operand} {lo hi : Option Operand} {x' : Opd} {lo' hi' : Option Opd} (hop : o.op = .slice t x lo hi none) (hgl : GlobOk G gl) (he : RepEnv G en a.tmps) (R : Rel G h w)
    (ht : P.underlying t = some (.array n e)) (hg : growElem P e = some sz)
    (hx : opd gl x = some x') (hl : opdO gl lo = some lo') (hh : opdO gl hi = some hi') (hs : step base en h (.sliceArr n sz x' lo' hi') = some (v, h')) : OpOk P o a G h' w v := by
  have hrx := opd_rep hgl he hx
  obtain ⟨i, z, hi1, hz1, rfl, _⟩ := growElem_inv hg
  have hsz : sizeO P e = some i.size := by simp [sizeO, hi1]
  simp only [step] at hs
  split at hs
  · rename_i cs l e' es h1 h2
    split at hs
    · rename_i hc
      obtain ⟨rfl, rfl, hnc, hpos, hn0⟩ := hc
      injection hs with hs
      simp only [Prod.mk.injEq] at hs
      obtain ⟨rfl, rfl⟩ := hs
      rw [es] at hrx
      simp only [RepV, Nat.add_zero] at hrx
      obtain ⟨b, oo, hr, hgr, hF⟩ := hrx
      have hb := bounds_run (P := P) (w := w) (b := false) (len := e') (cap := e') (boundO_OB hgl he hl h1) (boundO_OB hgl he hh h2) (.inl ⟨rfl, rfl⟩ : OB e' none e') (by simp) (Nat.zero_le _) (Nat.le_refl _) (Nat.le_refl _)
      refine OpOk.quiet (s := Instr.sliceAt t (a.eval x) (lo.map a.eval) (hi.map a.eval) none) (r := .slice (some ⟨b, oo, none⟩) e' e') R (by simp only [execOp, hop, Option.map_none]) ?_ ?_
      · rw [hr]
        simp [Instr.sliceAt, run_underlying ht w, Instr.sureAddr, hb, sizeO_run hsz w, Addr.add]
      · have hlen : ((List.range e').map fun k => (cs.drop (k * i.size)).take i.size).length = e' := by simp
        simp only [RepV]
        refine ⟨_, _, by rw [hlen], by rw [hlen]; exact Nat.le_refl _, fun _ => by rw [hlen], ?_, b, oo, fun _ => rfl, by simp, RepRows.of_get fun k c hk => ?_⟩
        · rw [List.all_eq_true]
          intro r hr
          simp only [List.mem_map] at hr
          obtain ⟨k, _, rfl⟩ := hr
          rw [List.all_eq_true] at hgr ⊢
          exact fun y hy => hgr y (List.mem_of_mem_drop (List.mem_of_mem_take hy))
        · simp only [List.getElem?_map, Option.map_eq_some_iff] at hk
          obtain ⟨k', hk', rfl⟩ := hk
          have hkl : k < e' := by
            rcases Nat.lt_or_ge k e' with hl | hl
            · exact hl
            · rw [List.getElem?_eq_none (by simpa using hl)] at hk'
              simp at hk'
          rw [List.getElem?_range hkl] at hk'
          injection hk' with hk'
          subst hk'
          have hroom : k * i.size + i.size ≤ cs.length := row_room (rs := Array.replicate cs.length undef) (by simpa using hnc.symm) (Nat.le_refl _) hkl |> fun h => by simpa using h
          refine ⟨by simp; omega, RepF.of_get fun j c hj => ?_⟩
          rw [List.getElem?_take] at hj
          split at hj
          · rw [List.getElem?_drop] at hj
            have := hF.get hj
            rwa [← Nat.add_assoc] at this
          · simp at hj
    · simp at hs
  · rename_i b ep l e' es h1 h2
    split at hs
    · rename_i z rows hra
      split at hs
      · rename_i hc
        obtain ⟨rfl, rfl, hle, hen⟩ := hc
        injection hs with hs
        simp only [Prod.mk.injEq] at hs
        obtain ⟨rfl, rfl⟩ := hs
        rw [es] at hrx
        obtain ⟨ty, eq, hpos, L, rs, hL, hLe, hLs, hcp, hw, hss, hB⟩ := R.rowAt hra
        simp only [RepV] at hrx
        obtain ⟨hb', a', hr, hLx⟩ := hrx
        obtain ⟨k1, k2⟩ := hLx L hL
        have ha := k2 hLe.symm
        simp only [Nat.zero_mul, Nat.zero_add] at ha
        subst ha
        have hb := bounds_run (P := P) (w := w) (b := false) (len := rows.length) (cap := rows.length) (boundO_OB hgl he hl h1) (boundO_OB hgl he hh h2) (.inl ⟨rfl, rfl⟩ : OB rows.length none rows.length) (by simp) hle hen (Nat.le_refl _)
        refine OpOk.quiet (s := Instr.sliceAt t (a.eval x) (lo.map a.eval) (hi.map a.eval) none) (r := .slice (some (if rows.length = l then ⟨L.blk, 0, none⟩ else ⟨L.blk, l * i.size, none⟩)) (e' - l) (rows.length - l)) R (by simp only [execOp, hop, Option.map_none]) ?_ ?_
        · rw [hr]
          by_cases hq : rows.length = l
          · rw [if_pos hq]
            simp [Instr.sliceAt, run_underlying ht w, Instr.sureAddr, hb, sizeO_run hsz w, add_none]
            intro hq'
            exact absurd hq hq'
          · rw [if_neg hq]
            simp [Instr.sliceAt, run_underlying ht w, Instr.sureAddr, hb, sizeO_run hsz w, add_none]
            intro hq'
            exact absurd (by omega) hq
        · simp only [RepV]
          refine ⟨hb', _, _, rfl, fun L' hL' => ?_⟩
          rw [hL] at hL'
          injection hL' with hL'
          subst hL'
          exact ⟨k1, fun _ => ⟨by omega, by omega, fun h0 => by rw [if_neg (by omega), hLs]⟩⟩
      · simp at hs
    · simp at hs
  · simp at hs
theorem ok_minmax {mx : Bool} {ts : Array TypeId} {xs : Array Operand} {ys : List Opd} (hop : o.op = .call { callee := .builtin (if mx then .max else .min), args := xs, argTypes := ts }) (hgl : GlobOk G gl) (he : RepEnv G en a.tmps) (R : Rel G h w)
    (hx : opds gl xs.toList = some ys) (hs : step base en h (.mnmx mx ys) = some (v, h')) : OpOk P o a G h' w v := by
  have hr := opds_rep hgl he hx
  simp only [step] at hs
  split at hs
  · rename_i y r ey
    obtain ⟨h1, h2⟩ := some_pair hs
    simp only at h1 h2
    subst h2
    rw [ey] at hr
    simp only [RepL] at hr
    obtain ⟨q, rest, eq, hq, hrest⟩ := hr
    obtain ⟨z, h3, h4⟩ := minmax_run (P := P) (w := w) mx ts 0 hq hrest h1
    refine ⟨z, w, G, .inl ?_, Ext.refl G, R, h4, Bel.refl _ _⟩
    have hargs : (xs.map a.eval).toList = q :: rest := by simpa using eq
    cases mx
    · simp only [Bool.false_eq_true, if_false] at hop h3
      simp only [execOp, hop, resolve, Sem.run_bind, Sem.run_pure, Result.andThen_ok, invoke, builtin, Builtin.min_, hargs, h3]
    · simp only [if_true] at hop h3
      simp only [execOp, hop, resolve, Sem.run_bind, Sem.run_pure, Result.andThen_ok, invoke, builtin, Builtin.max_, hargs, h3]
  · simp at hs
theorem step_run (hgl : GlobOk G gl) (he : RepEnv G en a.tmps) (R : Rel G h w) {ao : AOp} (hc : compOp P gl o.op = some ao) (hs : step base en h ao = some (v, h')) : OpOk P o a G h' w v := by
  cases hop : o.op <;> rw [hop] at hc <;> simp only [compOp, reduceCtorEq] at hc
  case move x =>
    simp only [Option.map_eq_some_iff] at hc
    obtain ⟨y, hy, rfl⟩ := hc
    simp only [step, Option.some.injEq, Prod.mk.injEq] at hs
    obtain ⟨rfl, rfl⟩ := hs
    exact ok_move (.inl hop) hgl he R hy
  case assign x =>
    simp only [Option.map_eq_some_iff] at hc
    obtain ⟨y, hy, rfl⟩ := hc
    simp only [step, Option.some.injEq, Prod.mk.injEq] at hs
    obtain ⟨rfl, rfl⟩ := hs
    exact ok_move (.inr hop) hgl he R hy
  case pick c x y =>
    simp only [Option.bind_eq_some_iff, Option.map_eq_some_iff] at hc
    obtain ⟨c', h1, x', h2, y', h3, rfl⟩ := hc
    simp only [step] at hs
    split at hs
    · rename_i t ht
      simp only [Option.some.injEq, Prod.mk.injEq] at hs
      obtain ⟨rfl, rfl⟩ := hs
      exact ok_pick hop hgl he R h1 h2 h3 ht
    · simp at hs
  case alloc t =>
    simp only [Option.map_eq_some_iff] at hc
    obtain ⟨zs, hz, hc⟩ := hc
    split at hc
    · subst hc
      exact ok_allocA hop R hz hs
    · subst hc
      simp only [step, Option.some.injEq, Prod.mk.injEq] at hs
      obtain ⟨rfl, rfl⟩ := hs
      exact ok_alloc hop R hz
  case box t x =>
    simp only [Option.map_eq_some_iff] at hc
    obtain ⟨y, hy, hc⟩ := hc
    split at hc
    · subst hc
      exact ok_boxF hop hgl he R hy hs
    split at hc
    · subst hc
      exact ok_boxA hop hgl he R hy hs
    · subst hc
      simp only [step] at hs
      split at hs
      · rename_i hone
        simp only [Option.some.injEq, Prod.mk.injEq] at hs
        obtain ⟨rfl, rfl⟩ := hs
        exact ok_box hop hgl he R hy hone
      · simp at hs
  case build t ps =>
    simp only [Option.bind_eq_some_iff] at hc
    obtain ⟨d, hd, hc⟩ := hc
    split at hc
    · rename_i fs
      simp only [Option.bind_eq_some_iff, Option.map_eq_some_iff] at hc
      obtain ⟨zs, hz, pl, hp, qs, hq, rfl⟩ := hc
      simp only [step, Option.map_eq_some_iff, Prod.mk.injEq] at hs
      obtain ⟨cs, hf, rfl, rfl⟩ := hs
      exact ok_build hop hgl he R hd hz (.inl ⟨fs, pl, rfl, hp, hq⟩) hf
    · rename_i n e
      simp only [Option.bind_eq_some_iff, Option.map_eq_some_iff] at hc
      obtain ⟨zs, hz, s, hs', qs, hq, rfl⟩ := hc
      simp only [step, Option.map_eq_some_iff, Prod.mk.injEq] at hs
      obtain ⟨cs, hf, rfl, rfl⟩ := hs
      exact ok_build hop hgl he R hd hz (.inr ⟨n, e, s, rfl, hs', hq⟩) hf
    · simp at hc
  case makeMap t r =>
    cases r with
    | none =>
      simp only [Option.some.injEq] at hc
      subst hc
      simp only [step, Option.some.injEq, Prod.mk.injEq] at hs
      obtain ⟨rfl, rfl⟩ := hs
      exact ok_makeMap hop R
    | some r => simp at hc
  case lookup t m k ok =>
    simp only [Option.bind_eq_some_iff] at hc
    obtain ⟨d, hd, hc⟩ := hc
    split at hc
    · simp only [Option.bind_eq_some_iff, Option.map_eq_some_iff] at hc
      obtain ⟨kd, hkd, z, hz, m', hm, k', hk, rfl⟩ := hc
      exact ok_lookup hop hgl he R hd hkd hz hm hk hs
    · simp at hc
  case mapUpdate t m k x =>
    simp only [Option.bind_eq_some_iff] at hc
    obtain ⟨d, hd, hc⟩ := hc
    split at hc
    · simp only [Option.bind_eq_some_iff, Option.map_eq_some_iff] at hc
      obtain ⟨kd, hkd, m', hm, k', hk, x', hx, rfl⟩ := hc
      exact ok_mapUpdate (.inl hop) hgl he R hd hkd hm hk hx hs
    · simp at hc
  case insert t m k x =>
    simp only [Option.bind_eq_some_iff] at hc
    obtain ⟨d, hd, hc⟩ := hc
    split at hc
    · simp only [Option.bind_eq_some_iff, Option.map_eq_some_iff] at hc
      obtain ⟨kd, hkd, m', hm, k', hk, x', hx, rfl⟩ := hc
      exact ok_mapUpdate (.inr hop) hgl he R hd hkd hm hk hx hs
    · simp at hc
  case buildSlice t n ps =>
    simp only [Option.bind_eq_some_iff] at hc
    obtain ⟨d, hd, hc⟩ := hc
    split at hc
    · rename_i e
      simp only [Option.bind_eq_some_iff] at hc
      obtain ⟨sz, hg, zs, hz, hc⟩ := hc
      split at hc
      · rename_i hn
        simp only [Option.map_eq_some_iff] at hc
        obtain ⟨qs, hq, rfl⟩ := hc
        exact ok_bslice hop hgl he R hd hg hz hn hq hs
      · simp at hc
    · simp at hc
  case load t x =>
    simp only [Option.bind_eq_some_iff, Option.map_eq_some_iff] at hc
    obtain ⟨n, hn, y, hy, rfl⟩ := hc
    simp only [step] at hs
    obtain ⟨h1, h2⟩ := some_pair hs
    simp only at h1 h2
    subst h2
    exact ok_load hop hgl he R hn hy h1
  case store t x y =>
    simp only [Option.bind_eq_some_iff, Option.map_eq_some_iff] at hc
    obtain ⟨n, hn, x', hx, y', hy, rfl⟩ := hc
    simp only [step, Option.map_eq_some_iff, Prod.mk.injEq] at hs
    obtain ⟨h2, h1, rfl, rfl⟩ := hs
    exact ok_store hop hgl he R hn hx hy h1
  case nilCheck x =>
    simp only [Option.map_eq_some_iff] at hc
    obtain ⟨y, hy, rfl⟩ := hc
    obtain ⟨h1, h2, rfl⟩ := nilCheck_run (P := P) (w := w) (ρ := a.eval) hop (opd_rep hgl he hy) hs
    exact ⟨_, w, G, .inl h1, Ext.refl G, R, h2, Bel.refl _ _⟩
  case binOp op t x y ty =>
    split at hc
    · rename_i fs ht
      simp only [Option.bind_eq_some_iff] at hc
      obtain ⟨ls, hl, x', hx, y', hy, hc⟩ := hc
      have fin : ∀ neg, op = (if neg then .neq else .eql) → ao = .eqAgg neg ls x' y' → OpOk P o a G h' w v := by
        rintro neg hopn rfl
        have hrx := opd_rep hgl he hx
        have hry := opd_rep hgl he hy
        simp only [step] at hs
        split at hs
        · rename_i xs ys e1 e2
          simp only [Option.map_eq_some_iff, Prod.mk.injEq] at hs
          obtain ⟨res, h1, rfl, rfl⟩ := hs
          rw [e1] at hrx
          rw [e2] at hry
          have h3 := eqAgg_run (P := P) (w := w) (neg := neg) (ox := x) (oy := y) ht hl hrx hry h1
          rw [← hopn] at h3
          exact OpOk.quiet R (by simp only [execOp, hop]) h3 (RepV.bool _ _)
        · simp at hs
      split at hc
      · injection hc with hc; exact fin false rfl hc.symm
      · injection hc with hc; exact fin true rfl hc.symm
      · simp at hc
    · exact ok_bin hop hgl he R hc hs
  case unOp op t x =>
    simp only [Option.map_eq_some_iff] at hc
    obtain ⟨y, hy, rfl⟩ := hc
    simp only [step] at hs
    obtain ⟨h1, h2⟩ := some_pair hs
    simp only at h1 h2
    subst h2
    obtain ⟨r, h3, h4⟩ := un_run (P := P) (w := w) (opd_rep hgl he hy) h1
    exact OpOk.quiet R (by simp only [execOp, hop]) h3 h4
  case convert s d x => exact ok_conv hop hgl he R hc hs
  case makeInterface t x =>
    simp only [Option.bind_eq_some_iff] at hc
    obtain ⟨d, hd, hc⟩ := hc
    have fin : ∀ y, opd gl x = some y → ao = .makeIface t y → (∀ ms, d ≠ .interface ms) → OpOk P o a G h' w v := by
      rintro y hy rfl hni
      simp only [step] at hs
      split at hs
      · simp only [Option.some.injEq, Prod.mk.injEq] at hs
        obtain ⟨rfl, rfl⟩ := hs
        refine OpOk.quiet (s := Instr.makeInterface t (a.eval x)) (r := .iface t (a.eval x)) R (by simp only [execOp, hop]) ?_ (by simp only [RepV]; exact ⟨_, rfl, opd_rep hgl he hy⟩)
        simp only [Instr.makeInterface, Sem.run_bind, run_underlying hd w, Result.andThen_ok]
        cases d <;> first | rfl | exact absurd rfl (hni _)
      · simp at hs
    split at hc
    · simp at hc
    · rename_i hni
      simp only [Option.map_eq_some_iff] at hc
      obtain ⟨y, hy, rfl⟩ := hc
      exact fin y hy rfl hni
  case makeFunc f x c =>
    simp only [Option.bind_eq_some_iff, Option.map_eq_some_iff] at hc
    obtain ⟨x', hx, c', hcc, rfl⟩ := hc
    simp only [step, Option.some.injEq, Prod.mk.injEq] at hs
    obtain ⟨rfl, rfl⟩ := hs
    refine OpOk.quiet (s := Instr.makeFunc f (x.map a.eval) (c.map a.eval)) (r := .func f (x.map a.eval) (c.map a.eval)) R (by simp only [execOp, hop]) rfl ?_
    simp only [RepV]
    exact ⟨_, _, rfl, by simpa using opds_rep hgl he hx, by simpa using opds_rep hgl he hcc⟩
  case makeSlice t l c =>
    simp only [Option.bind_eq_some_iff] at hc
    obtain ⟨d, hd, hc⟩ := hc
    split at hc
    · rename_i e
      simp only [Option.bind_eq_some_iff] at hc
      obtain ⟨sz, hg, zs, hz, hc⟩ := hc
      split at hc
      · simp only [Option.bind_eq_some_iff, Option.map_eq_some_iff] at hc
        obtain ⟨l', hl, c', hcc, rfl⟩ := hc
        exact ok_makeSlice hop hgl he R hd hg hz hl hcc hs
      · simp at hc
    · simp at hc
  case slice t x lo hi mx =>
    simp only [Option.bind_eq_some_iff] at hc
    obtain ⟨d, hd, x', hx, lo', hl, hi', hh, mx', hm, hc⟩ := hc
    have hmn : mx'.isNone = true → mx = none := by
      intro e
      cases mx with
      | none => rfl
      | some m =>
        simp only [opdO, Option.map_eq_some_iff] at hm
        obtain ⟨q, _, rfl⟩ := hm
        simp at e
    split at hc
    · split at hc
      · rename_i e
        have := hmn e
        subst this
        injection hc with hc
        subst hc
        exact ok_sliceStr hop hgl he R hd hx hl hh hs
      · simp at hc
    · simp only [Option.map_eq_some_iff] at hc
      obtain ⟨sz, hg, rfl⟩ := hc
      exact ok_slice hop hgl he R hd hg hx hl hh hm hs
    · split at hc
      · rename_i e
        have := hmn e
        subst this
        simp only [Option.map_eq_some_iff] at hc
        obtain ⟨sz, hg, rfl⟩ := hc
        exact ok_sliceArr hop hgl he R hd hg hx hl hh hs
      · simp at hc
    · simp at hc
  case fieldAddr t x i =>
    simp only [Option.bind_eq_some_iff] at hc
    obtain ⟨d, hd, hc⟩ := hc
    split at hc
    · rename_i fs
      simp only [Option.bind_eq_some_iff] at hc
      obtain ⟨f, hf, s, hs', hc⟩ := hc
      split at hc
      · rename_i hpos
        simp only [Option.map_eq_some_iff] at hc
        obtain ⟨y, hy, rfl⟩ := hc
        simp only [step] at hs
        obtain ⟨h1, h2⟩ := some_pair hs
        simp only at h1 h2
        subst h2
        obtain ⟨r, h3, h4⟩ := fieldAddr_run (P := P) (w := w) hd hf hs' hpos (opd_rep hgl he hy) h1
        exact OpOk.quiet R (by simp only [execOp, hop]) h3 h4
      · simp at hc
    · simp at hc
  case field t x i =>
    simp only [Option.bind_eq_some_iff] at hc
    obtain ⟨d, hd, hc⟩ := hc
    split at hc
    · rename_i fs
      simp only [Option.bind_eq_some_iff, Option.map_eq_some_iff] at hc
      obtain ⟨f, hf, n, hn, y, hy, rfl⟩ := hc
      have hrx := opd_rep hgl he hy
      simp only [step] at hs
      split at hs
      · rename_i cs e
        obtain ⟨h1, h2⟩ := some_pair hs
        simp only at h1 h2
        subst h2
        rw [e] at hrx
        obtain ⟨r, h3, h4⟩ := field_run (P := P) (w := w) hd hf hn hrx h1
        exact OpOk.quiet R (by simp only [execOp, hop]) h3 h4
      · simp at hs
    · simp at hc
  case indexAddr t x i =>
    simp only [Option.bind_eq_some_iff] at hc
    obtain ⟨d, hd, x', hx, i', hi, hc⟩ := hc
    split at hc
    · rename_i e
      simp only [Option.map_eq_some_iff] at hc
      obtain ⟨s, hs', rfl⟩ := hc
      simp only [step, Option.bind_eq_some_iff] at hs
      obtain ⟨k, hk, hs⟩ := hs
      obtain ⟨h1, h2⟩ := some_pair hs
      simp only at h1 h2
      subst h2
      obtain ⟨r, h3, h4⟩ := indexS_run (P := P) R hd hs' (opd_rep hgl he hx) (opd_rep hgl he hi) hk h1
      exact OpOk.quiet R (by simp only [execOp, hop]) h3 h4
    · rename_i n e
      simp only [Option.map_eq_some_iff] at hc
      obtain ⟨s, hs', rfl⟩ := hc
      simp only [step, Option.bind_eq_some_iff] at hs
      obtain ⟨k, hk, hs⟩ := hs
      split at hs
      · rename_i hlt
        obtain ⟨h1, h2⟩ := some_pair hs
        simp only at h1 h2
        subst h2
        obtain ⟨r, h3, h4⟩ := indexA_run (P := P) (w := w) hd hs' (opd_rep hgl he hx) (opd_rep hgl he hi) hk hlt h1
        exact OpOk.quiet R (by simp only [execOp, hop]) h3 h4
      · simp at hs
    · simp at hc
  case index t x i =>
    simp only [Option.bind_eq_some_iff] at hc
    obtain ⟨d, hd, x', hx, i', hi, hc⟩ := hc
    split at hc
    · rename_i n e
      simp only [Option.bind_eq_some_iff, Option.map_eq_some_iff] at hc
      obtain ⟨m, hm, s, hs', rfl⟩ := hc
      simp only [step, Option.bind_eq_some_iff] at hs
      obtain ⟨k, hk, hs⟩ := hs
      have hrx := opd_rep hgl he hx
      split at hs
      · rename_i hlt
        split at hs
        · rename_i cs ec
          obtain ⟨h1, h2⟩ := some_pair hs
          simp only at h1 h2
          subst h2
          rw [ec] at hrx
          obtain ⟨r, h3, h4⟩ := idxArr_run (P := P) (w := w) hd hm hs' hrx (opd_rep hgl he hi) hk hlt h1
          exact OpOk.quiet R (by simp only [execOp, hop]) h3 h4
        · simp at hs
      · simp at hs
    · injection hc with hc
      subst hc
      simp only [step, Option.bind_eq_some_iff] at hs
      obtain ⟨k, hk, hs⟩ := hs
      have hrx := opd_rep hgl he hx
      split at hs
      · rename_i s es
        simp only [Option.map_eq_some_iff, Prod.mk.injEq] at hs
        obtain ⟨c, h1, rfl, rfl⟩ := hs
        rw [es] at hrx
        have h3 := idxStr_run (P := P) (w := w) hd hrx (opd_rep hgl he hi) hk h1
        exact OpOk.quiet R (by simp only [execOp, hop]) h3 (RepV.int _ _ _)
      · simp at hs
    · simp at hc
  case extract x i =>
    simp only [Option.map_eq_some_iff] at hc
    obtain ⟨y, hy, rfl⟩ := hc
    have hrx := opd_rep hgl he hy
    simp only [step] at hs
    split at hs
    · rename_i vs es
      obtain ⟨h1, h2⟩ := some_pair hs
      simp only at h1 h2
      subst h2
      rw [es] at hrx
      simp only [RepV] at hrx
      obtain ⟨rs, hr, hl⟩ := hrx
      obtain ⟨r, h3, h4⟩ := hl.get h1
      refine OpOk.quiet (s := Instr.extract (a.eval x) i) R (by simp only [execOp, hop]) ?_ h4
      rw [hr]
      rw [Array.getElem?_toList] at h3
      simp [Instr.extract, h3]
    · simp at hs
  case call c =>
    obtain ⟨callee, args, ts⟩ := c
    simp only [compCall] at hc
    split at hc
    · simp only [Option.bind_eq_some_iff, Option.map_eq_some_iff] at hc
      obtain ⟨f, hf, xs, hx, rfl⟩ := hc
      simp [step] at hs
    · rename_i b
      have hres : execOp a.eval o = builtin b ts o.type (args.map fun | .const _ => true | _ => false) (args.map a.eval) := by
        simp only [execOp, hop, resolve]
        rfl
      unfold compBuiltin at hc
      split at hc
      · rename_i t x e1 e2
        have ets : ts = #[t] := by rw [← Array.toArray_toList (xs := ts), e1]
        have exs : args = #[x] := by rw [← Array.toArray_toList (xs := args), e2]
        subst ets; subst exs
        simp only [Option.bind_eq_some_iff] at hc
        obtain ⟨d, hd, hc⟩ := hc
        have hgo : ∀ {n : Nat}, (Builtin.len_ #[t] o.type #[a.eval x]).run P w = .ok (goInt n) w → v = .int n → h' = h → OpOk P o a G h' w v := by
          rintro n h1 rfl rfl
          refine ⟨goInt n, w, G, .inl ?_, Ext.refl G, R, RepV.int _ _ _, Bel.refl _ _⟩
          rw [hres]
          simp only [builtin, List.map_toArray, List.map_cons, List.map_nil, Sem.run_bind, h1, Result.andThen_ok]
          rfl
        split at hc
        · simp only [Option.map_eq_some_iff] at hc
          obtain ⟨y, hy, rfl⟩ := hc
          have hrx := opd_rep hgl he hy
          simp only [step] at hs
          split at hs
          · rename_i s es
            simp only [Option.some.injEq, Prod.mk.injEq] at hs
            rw [es] at hrx
            refine hgo (n := s.size) ?_ hs.1.symm hs.2.symm
            rw [hrx.sc_inv]
            simp [Builtin.len_, run_underlying hd w]
          · simp at hs
        · simp only [Option.map_eq_some_iff] at hc
          obtain ⟨y, hy, rfl⟩ := hc
          have hrx := opd_rep hgl he hy
          simp only [step] at hs
          obtain ⟨h1, h2⟩ : ∃ n : Nat, slcLen (y.get en) = some n ∧ v = .int n ∧ h' = h := by
            simp only [Option.map_eq_some_iff, Prod.mk.injEq] at hs
            obtain ⟨n, h1, h2, h3⟩ := hs
            exact ⟨n, h1, h2.symm, h3.symm⟩
          rename_i e0 n
          have hsl : ∃ b c, a.eval x = .slice b h1 c := by
            obtain ⟨h2, _⟩ := h2
            unfold slcLen at h2
            split at h2
            · rename_i ee
              rw [ee] at hrx
              injection h2 with h2
              subst h2
              simp only [RepV] at hrx
              obtain ⟨b, c, hr, _⟩ := hrx
              exact ⟨b, c, hr⟩
            · rename_i ee
              rw [ee] at hrx
              injection h2 with h2
              subst h2
              simp only [RepV] at hrx
              obtain ⟨_, b, c, hr, _⟩ := hrx
              exact ⟨_, c, hr⟩
            · rename_i ee
              rw [ee] at hrx
              injection h2 with h2
              subst h2
              exact ⟨none, 0, hrx.sc_inv⟩
            · simp at h2
          obtain ⟨b, c, hr⟩ := hsl
          refine hgo (n := h1) ?_ h2.2.1 h2.2.2
          rw [hr]
          simp [Builtin.len_, run_underlying hd w]
        · rename_i n e
          injection hc with hc
          subst hc
          simp only [step, Option.some.injEq, Prod.mk.injEq] at hs
          refine hgo (n := n) ?_ hs.1.symm hs.2.symm
          simp [Builtin.len_, run_underlying hd w]
        · simp only [Option.map_eq_some_iff] at hc
          obtain ⟨y, hy, rfl⟩ := hc
          simp only [step, Option.map_eq_some_iff, Prod.mk.injEq] at hs
          obtain ⟨n, h1, h2, h3⟩ := hs
          exact hgo (n := n) (lenM_run R hd (opd_rep hgl he hy) h1) h2.symm h3.symm
        · simp at hc
      · rename_i t u s x e1 e2
        have ets : ts = #[t, u] := by rw [← Array.toArray_toList (xs := ts), e1]
        have exs : args = #[s, x] := by rw [← Array.toArray_toList (xs := args), e2]
        subst ets; subst exs
        simp only [Option.bind_eq_some_iff] at hc
        obtain ⟨d, hd, hc⟩ := hc
        split at hc
        · rename_i e
          simp only [Option.bind_eq_some_iff] at hc
          obtain ⟨sz, hg, du, hdu, hc⟩ := hc
          have fin : (P.underlying u = some .string ∨ ∃ e', P.underlying u = some (.slice e')) → ∀ s' x', opd gl s = some s' → opd gl x = some x' → ao = .append e sz s' x' → OpOk P o a G h' w v := by
            rintro hu s' x' hs' hx' rfl
            simp only [step, Option.bind_eq_some_iff] at hs
            obtain ⟨new, h1, h2⟩ := hs
            obtain ⟨r, w', G', h3, h4, h5, h6, h7⟩ := append_run (P := P) (ty := o.type) R hd hu hg (opd_rep hgl he hs') (opd_rep hgl he hx') h1 h2
            refine ⟨r, w', G', .inl ?_, h4, h5, h6, h7⟩
            rw [hres]
            simp only [builtin, List.map_toArray, List.map_cons, List.map_nil, Sem.run_bind, h3, Result.andThen_ok]
            rfl
          split at hc
          · simp only [Option.bind_eq_some_iff, Option.map_eq_some_iff] at hc
            obtain ⟨s', hs', x', hx', rfl⟩ := hc
            exact fin (.inr ⟨_, hdu⟩) s' x' hs' hx' rfl
          · simp only [Option.bind_eq_some_iff, Option.map_eq_some_iff] at hc
            obtain ⟨s', hs', x', hx', rfl⟩ := hc
            exact fin (.inl hdu) s' x' hs' hx' rfl
          · simp at hc
        · simp at hc
      · rename_i t x e1 e2
        have ets : ts = #[t] := by rw [← Array.toArray_toList (xs := ts), e1]
        have exs : args = #[x] := by rw [← Array.toArray_toList (xs := args), e2]
        subst ets; subst exs
        simp only [Option.bind_eq_some_iff] at hc
        obtain ⟨d, hd, hc⟩ := hc
        split at hc
        · simp only [Option.map_eq_some_iff] at hc
          obtain ⟨y, hy, rfl⟩ := hc
          simp only [step, Option.map_eq_some_iff, Prod.mk.injEq] at hs
          obtain ⟨n, h1, rfl, rfl⟩ := hs
          have h3 := cap_run (P := P) (w := w) (ty := o.type) hd (opd_rep hgl he hy) h1
          refine ⟨_, w, G, .inl ?_, Ext.refl G, R, RepV.int _ _ _, Bel.refl _ _⟩
          rw [hres]
          simp only [builtin, List.map_toArray, List.map_cons, List.map_nil, Sem.run_bind, h3, Result.andThen_ok]
          rfl
        · simp at hc
      · rename_i t u s x e1 e2
        have ets : ts = #[t, u] := by rw [← Array.toArray_toList (xs := ts), e1]
        have exs : args = #[s, x] := by rw [← Array.toArray_toList (xs := args), e2]
        subst ets; subst exs
        simp only [Option.bind_eq_some_iff] at hc
        obtain ⟨d, hd, hc⟩ := hc
        split at hc
        · rename_i e
          simp only [Option.bind_eq_some_iff] at hc
          obtain ⟨sz, hg, du, hdu, hc⟩ := hc
          have fin : ∀ s' x', opd gl s = some s' → opd gl x = some x' → ao = .copy sz s' x' → OpOk P o a G h' w v := by
            rintro s' x' hs' hx' rfl
            simp only [step, Option.bind_eq_some_iff, Option.map_eq_some_iff, Prod.mk.injEq] at hs
            obtain ⟨new, h1, ⟨k, h2⟩, h3, rfl, rfl⟩ := hs
            obtain ⟨w', h4, h5, h6⟩ := copy_run (P := P) (u := u) (ty := o.type) R hd hg (opd_rep hgl he hs') (opd_rep hgl he hx') h1 h3
            refine ⟨goInt k, w', G, .inl ?_, Ext.refl G, h5, RepV.int _ _ _, h6⟩
            rw [hres]
            simp only [builtin, List.map_toArray, List.map_cons, List.map_nil, Sem.run_bind, h4, Result.andThen_ok]
            rfl
          split at hc
          · simp only [Option.bind_eq_some_iff, Option.map_eq_some_iff] at hc
            obtain ⟨s', hs', x', hx', rfl⟩ := hc
            exact fin s' x' hs' hx' rfl
          · simp only [Option.bind_eq_some_iff, Option.map_eq_some_iff] at hc
            obtain ⟨s', hs', x', hx', rfl⟩ := hc
            exact fin s' x' hs' hx' rfl
          · simp at hc
        · simp at hc
      · rename_i x e2
        have exs : args = #[x] := by rw [← Array.toArray_toList (xs := args), e2]
        subst exs
        simp only [Option.map_eq_some_iff] at hc
        obtain ⟨y, hy, rfl⟩ := hc
        simp only [step] at hs
        obtain ⟨h1, h2⟩ := some_pair hs
        simp only at h1 h2
        subst h2
        obtain ⟨r, h3, h4⟩ := sliceData_run (P := P) (ts := ts) (ty := o.type) R (opd_rep hgl he hy) h1
        refine ⟨r, w, G, .inl ?_, Ext.refl G, R, h4, Bel.refl _ _⟩
        rw [hres]
        simp only [builtin, List.map_toArray, List.map_cons, List.map_nil, Sem.run_bind, h3, Result.andThen_ok]
        rfl
      · rename_i pt it x n e1 e2
        have ets : ts = #[pt, it] := by rw [← Array.toArray_toList (xs := ts), e1]
        have exs : args = #[x, n] := by rw [← Array.toArray_toList (xs := args), e2]
        subst ets; subst exs
        simp only [Option.bind_eq_some_iff] at hc
        obtain ⟨d, hd, hc⟩ := hc
        split at hc
        · split at hc
          · rename_i hcell
            simp only [Option.bind_eq_some_iff, Option.map_eq_some_iff] at hc
            obtain ⟨x', hx, n', hn, rfl⟩ := hc
            simp only [step] at hs
            split at hs
            · rename_i k ek
              split at hs
              · rename_i h0
                have hrn := opd_rep hgl he hn
                rw [ek] at hrn
                have hrn := hrn.sc_inv
                obtain ⟨r, w', h3, h4, h5, h6⟩ := strData_run (P := P) (it := it) (ty := o.type) R hd hcell (opd_rep hgl he hx) hs
                refine ⟨r, w', G, .inl ?_, Ext.refl G, h4, h5, h6⟩
                rw [hres]
                have hk : (Value.int .i64 (k.toNat : Int)) = .int .i64 k := by rw [Int.toNat_of_nonneg h0]
                rw [hk] at h3
                simp only [builtin, List.map_toArray, List.map_cons, List.map_nil, Sem.run_bind, hrn, h3, Result.andThen_ok]
                rfl
              · simp at hs
            · simp at hs
          · simp at hc
        · simp at hc
      · simp only [Option.map_eq_some_iff] at hc
        obtain ⟨ys, hy, rfl⟩ := hc
        exact ok_minmax (mx := true) hop hgl he R hy hs
      · simp only [Option.map_eq_some_iff] at hc
        obtain ⟨ys, hy, rfl⟩ := hc
        exact ok_minmax (mx := false) hop hgl he R hy hs
      · simp at hc
    · simp at hc
end
end Go.Am
end
section
/- Am: regions, control, calls: the machine does what the abstract run does. -/
namespace Go.Am
open Go.RowKit (Below)
def CallsF (P : Program) (f : FuncId) (args : Array Value) (w : World) (R : Value → World → Prop) : Prop :=
  match (callFunc f args).run P w with
  | .ok (.value v) w' => R v w'
  | .ok (.enter g as) w' => Calls P g as w' fun
      | .returned v, w'' => R v w''
      | _, _ => False
  | .ok (.row row as) w' => Rows P row as w' R
  | _ => False
def HeapOk (base : Nat) (h : Heap) : Prop :=
  ∀ b, b < base → (∀ t cs, h[b]? = some (.box t cs) → refsLts base cs = true) ∧ (∀ t sz e rows, h[b]? = some (.row t sz e rows) → ∀ r ∈ rows, refsLts base r = true) ∧ (∀ es, h[b]? = some (.mmap es) → ∀ e ∈ es, refsLt base e.2 = true)
def Grow (base : Nat) (h h' : Heap) : Prop := h.length ≤ h'.length ∧ ∀ n, n ≤ base → n ≤ h.length → HeapOk n h → HeapOk n h'
theorem Grow.refl (base : Nat) (h : Heap) : Grow base h h := ⟨Nat.le_refl _, fun _ _ _ h => h⟩
theorem Grow.trans {base : Nat} {a b c : Heap} (h : Grow base a b) (k : Grow base b c) : Grow base a c :=
  ⟨Nat.le_trans h.1 k.1, fun n h1 h2 ho => k.2 n h1 (Nat.le_trans h2 h.1) (h.2 n h1 h2 ho)⟩
structure Reach (G : Tie) (w : World) (h' : Heap) (w' : World) (G' : Tie) : Prop where
  ext : Ext G G'
  rel : Rel G' h' w'
  below : Bel G w w'
theorem Reach.refl {G : Tie} {h : Heap} {w : World} (R : Rel G h w) : Reach G w h w G := ⟨Ext.refl G, R, Bel.refl _ _⟩
theorem Reach.trans {G G' G'' : Tie} {h h' : Heap} {w w' w'' : World} (a : Reach G w h w' G') (b : Reach G' w' h' w'' G'') : Reach G w h' w'' G'' :=
  ⟨a.ext.trans b.ext, b.rel, a.below.trans ⟨by have := b.below.bel; rwa [a.ext.b0] at this, by have := b.below.kept; rwa [a.ext.kp] at this⟩⟩
structure CallOk (P : Program) (gl : Nat → Option (List V)) (call : CallF) : Prop where
  grow : ∀ base f args h r h', call base f args h = some (r, h') → base ≤ h.length → Grow base h h'
  runs : ∀ base f args h r h', call base f args h = some (r, h') → base ≤ h.length → ∀ G w vals, GlobOk G gl → Rel G h w → RepL G args vals.toList →
    CallsF P f vals w fun rv w' => ∃ G', Reach G w h' w' G' ∧ RepV G' r rv
theorem refsLts_all {n : Nat} : ∀ {l : List V}, refsLts n l = true ↔ ∀ v ∈ l, refsLt n v = true
  | [] => by simp [refsLts]
  | v :: r => by simp [refsLts, refsLts_all]
mutual
theorem refsLt_mono {n m : Nat} (h : n ≤ m) : ∀ {v : V}, refsLt n v = true → refsLt m v = true
  | .undef, _ => by simp [refsLt]
  | .opq, _ => by simp [refsLt]
  | .sc _, _ => by simp [refsLt]
  | .slc .., _ => by simp [refsLt]
  | .eptr .., _ => by simp [refsLt]
  | .ptr .., hv => by simp [refsLt] at hv ⊢; omega
  | .hsl .., hv => by simp [refsLt] at hv ⊢; omega
  | .rptr .., hv => by simp [refsLt] at hv ⊢; omega
  | .mp _, hv => by simp [refsLt] at hv ⊢; omega
  | .fn f a c, hv => by
    simp only [refsLt, Bool.and_eq_true] at hv ⊢
    exact ⟨refsLts_mono h hv.1, refsLts_mono h hv.2⟩
  | .agg cs, hv => by
    simp only [refsLt] at hv ⊢
    exact refsLts_mono h hv
  | .tup cs, hv => by
    simp only [refsLt] at hv ⊢
    exact refsLts_mono h hv
  | .ifc t v, hv => by
    simp only [refsLt] at hv ⊢
    exact refsLt_mono h hv
theorem refsLts_mono {n m : Nat} (h : n ≤ m) : ∀ {l : List V}, refsLts n l = true → refsLts m l = true
  | [], _ => by simp [refsLts]
  | v :: r, hv => by
    simp only [refsLts, Bool.and_eq_true] at hv ⊢
    exact ⟨refsLt_mono h hv.1, refsLts_mono h hv.2⟩
end
theorem HeapOk.app {n : Nat} {h : Heap} (ho : HeapOk n h) (hn : n ≤ h.length) (o : Obj) : HeapOk n (h ++ [o]) := by
  intro b hb
  have : (h ++ [o])[b]? = h[b]? := List.getElem?_append_left (by omega)
  rw [this]
  exact ho b hb
theorem Grow.app (base : Nat) (h : Heap) (o : Obj) : Grow base h (h ++ [o]) := ⟨by simp, fun _ _ h2 ho => ho.app h2 o⟩
theorem HeapOk.setBox {n b : Nat} {t : TypeId} {h : Heap} {cs : List V} (ho : HeapOk n h) (hc : b < n → refsLts n cs = true) : HeapOk n (h.set b (.box t cs)) := by
  intro c hc'
  by_cases e : c = b
  · subst e
    rcases Nat.lt_or_ge c h.length with hl | hl
    · rw [List.getElem?_set_self hl]
      refine ⟨fun _ cs' he => ?_, fun _ _ _ _ he => by simp at he, fun _ he => by simp at he⟩
      simp at he
      obtain ⟨_, rfl⟩ := he
      exact hc hc'
    · rw [List.getElem?_eq_none (by simpa using hl)]
      exact ⟨fun _ _ he => by simp at he, fun _ _ _ _ he => by simp at he, fun _ he => by simp at he⟩
  · rw [List.getElem?_set_ne (by omega)]
    exact ho c hc'
theorem HeapOk.setRow {n b sz e : Nat} {t : TypeId} {h : Heap} {rows : List (List V)} (ho : HeapOk n h) (hc : b < n → ∀ r ∈ rows, refsLts n r = true) : HeapOk n (h.set b (.row t sz e rows)) := by
  intro c hc'
  by_cases ec : c = b
  · subst ec
    rcases Nat.lt_or_ge c h.length with hl | hl
    · rw [List.getElem?_set_self hl]
      refine ⟨fun _ cs' he => by simp at he, fun _ _ _ rows' he => ?_, fun _ he => by simp at he⟩
      simp at he
      obtain ⟨_, _, _, rfl⟩ := he
      exact hc hc'
    · rw [List.getElem?_eq_none (by simpa using hl)]
      exact ⟨fun _ _ he => by simp at he, fun _ _ _ _ he => by simp at he, fun _ he => by simp at he⟩
  · rw [List.getElem?_set_ne (by omega)]
    exact ho c hc'
theorem HeapOk.setMap {n b : Nat} {h : Heap} {es : List (Value × V)} (ho : HeapOk n h) (hc : b < n → ∀ e ∈ es, refsLt n e.2 = true) : HeapOk n (h.set b (.mmap es)) := by
  intro c hc'
  by_cases ec : c = b
  · subst ec
    rcases Nat.lt_or_ge c h.length with hl | hl
    · rw [List.getElem?_set_self hl]
      refine ⟨fun _ cs' he => by simp at he, fun _ _ _ rows' he => by simp at he, fun es' he => ?_⟩
      simp at he
      subst he
      exact hc hc'
    · rw [List.getElem?_eq_none (by simpa using hl)]
      exact ⟨fun _ _ he => by simp at he, fun _ _ _ _ he => by simp at he, fun _ he => by simp at he⟩
  · rw [List.getElem?_set_ne (by omega)]
    exact ho c hc'
theorem mayStore_refs {base b n : Nat} {cs : List V} (h : mayStore base b cs = true) (hb : b < n) (hn : n ≤ base) : refsLts n cs = true := by
  unfold mayStore at h
  simp only [Bool.or_eq_true, decide_eq_true_eq] at h
  rcases h with h | h
  · omega
  · exact refsLts_mono (by omega) h
theorem refsLts_append {n : Nat} {a b : List V} (h : refsLts n a = true) (k : refsLts n b = true) : refsLts n (a ++ b) = true := by
  rw [refsLts_all] at *
  intro v hv
  rcases List.mem_append.1 hv with hv | hv
  · exact h v hv
  · exact k v hv
theorem refsLts_sub {n : Nat} {a b : List V} (h : refsLts n a = true) (hs : ∀ v ∈ b, v ∈ a) : refsLts n b = true := by
  rw [refsLts_all] at *
  exact fun v hv => h v (hs v hv)
theorem refsLts_put {n off : Nat} {cs new : List V} (h : refsLts n cs = true) (k : refsLts n new = true) : refsLts n (putCells cs off new) = true := by
  unfold putCells
  exact refsLts_append (refsLts_append (refsLts_sub h fun _ hv => List.mem_of_mem_take hv) k) (refsLts_sub h fun _ hv => List.mem_of_mem_drop hv)
theorem storeV_grow {base n : Nat} {h h' : Heap} {a x : V} (hs : storeV base h n a x = some h') : Grow base h h' := by
  unfold storeV at hs
  split at hs
  case isFalse => simp at hs
  split at hs
  · rename_i b off
    split at hs
    · rename_i cs eq
      split at hs
      · rename_i hc
        injection hs with hs
        subst hs
        exact ⟨by simp, fun m h1 h2 ho => ho.setBox fun hb => refsLts_put ((ho b hb).1 _ cs eq) (mayStore_refs hc.2 hb h1)⟩
      · simp at hs
    · simp at hs
  · rename_i b e i off
    split at hs
    · rename_i ty sz e' rows eq
      split at hs
      · split at hs
        · rename_i cs hi
          split at hs
          · rename_i hc
            injection hs with hs
            subst hs
            refine ⟨by simp, fun m h1 h2 ho => ho.setRow fun hb r hr => ?_⟩
            rcases List.mem_or_eq_of_mem_set hr with hr | rfl
            · exact (ho b hb).2.1 _ _ _ rows eq r hr
            · exact refsLts_put ((ho b hb).2.1 _ _ _ rows eq cs (List.mem_of_getElem? hi)) (mayStore_refs hc.2 hb h1)
          · split at hs
            · rename_i hc
              injection hs with hs
              subst hs
              refine ⟨by simp, fun m h1 h2 ho => ho.setRow fun hb r hr => ?_⟩
              refine refsLts_sub (refsLts_put (cs := rows.flatten) ?_ (mayStore_refs hc.2.2 hb h1)) (chunk_mem hr)
              rw [refsLts_all]
              intro v hv
              obtain ⟨r', hr', hv'⟩ := List.mem_flatten.1 hv
              have := (ho b hb).2.1 _ _ _ rows eq r' hr'
              rw [refsLts_all] at this
              exact this v hv'
            · simp at hs
        · simp at hs
      · simp at hs
    · simp at hs
  · simp at hs
theorem appendV_grow {base sz : Nat} {t : TypeId} {h h' : Heap} {s v : V} {new : List (List V)} (hs : appendV base h t sz s new = some (v, h')) : Grow base h h' := by
  unfold appendV at hs
  split at hs
  · simp only [Option.map_eq_some_iff, Prod.mk.injEq] at hs
    obtain ⟨_, _, _, rfl⟩ := hs
    exact Grow.refl _ _
  · split at hs
    · split at hs
      · injection hs with hs
        simp only [Prod.mk.injEq] at hs
        rw [← hs.2]
        exact Grow.app _ _ _
      · simp at hs
    · split at hs
      · injection hs with hs
        simp only [Prod.mk.injEq] at hs
        rw [← hs.2]
        exact Grow.app _ _ _
      · simp at hs
    · rename_i b ep len
      split at hs
      · rename_i ty z e' rows eq
        split at hs
        · rename_i hc
          injection hs with hs
          simp only [Prod.mk.injEq] at hs
          rw [← hs.2]
          refine ⟨by simp, fun m h1 h2 ho => ho.setRow fun hb r hr => ?_⟩
          rcases List.mem_append.1 hr with hr | hr
          · exact (ho b hb).2.1 _ _ _ rows eq r (List.mem_of_mem_take hr)
          · exact mayStore_refs (List.all_eq_true.1 hc.2.2.2.2.2.2 r hr) hb h1
        · simp at hs
      · simp at hs
    · simp at hs
theorem copyV_grow {base sz : Nat} {h h' : Heap} {d : V} {k : Nat} {new : List (List V)} (hs : copyV base h sz d new = some (k, h')) : Grow base h h' := by
  unfold copyV at hs
  split at hs
  · simp at hs
  · rename_i m hm
    split at hs
    · simp only [Option.some.injEq, Prod.mk.injEq] at hs
      rw [← hs.2]
      exact Grow.refl _ _
    · rename_i hne
      split at hs
      · rename_i b e off len
        split at hs
        · rename_i ty z e' rows eq
          split at hs
          · rename_i hc
            simp only [Option.some.injEq, Prod.mk.injEq] at hs
            rw [← hs.2]
            refine ⟨by simp, fun m h1 h2 ho => ho.setRow fun hb r hr => ?_⟩
            rcases List.mem_append.1 hr with hr | hr
            · rcases List.mem_append.1 hr with hr | hr
              · exact (ho b hb).2.1 _ _ _ rows eq r (List.mem_of_mem_take hr)
              · exact mayStore_refs (List.all_eq_true.1 hc.2.2.2.2 r hr) hb h1
            · exact (ho b hb).2.1 _ _ _ rows eq r (List.mem_of_mem_drop hr)
          · simp at hs
        · simp at hs
      · simp at hs
theorem sliceV_grow {base sz lo : Nat} {hi mx : Option Nat} {h h' : Heap} {x v : V} (hs : sliceV h sz x lo hi mx = some (v, h')) : Grow base h h' := by
  unfold sliceV at hs
  split at hs
  · split at hs
    · injection hs with hs
      simp only [Prod.mk.injEq] at hs
      rw [← hs.2]
      exact Grow.refl _ _
    · simp at hs
  · rename_i b ep off len
    split at hs
    · split at hs
      · rename_i ty z e' rs eq
        split at hs
        · split at hs
          · injection hs with hs
            simp only [Prod.mk.injEq] at hs
            rw [← hs.2]
            exact Grow.refl _ _
          · split at hs
            · injection hs with hs
              simp only [Prod.mk.injEq] at hs
              rw [← hs.2]
              exact ⟨by simp, fun m h1 h2 ho => ho.setRow fun hb r hr => (ho b hb).2.1 _ _ _ rs eq r (List.mem_of_mem_take hr)⟩
            · simp at hs
        · simp at hs
      · simp at hs
    · simp at hs
  · split at hs
    · injection hs with hs
      simp only [Prod.mk.injEq] at hs
      rw [← hs.2]
      exact Grow.refl _ _
    · simp at hs
  · simp at hs
theorem HeapOk.setDead {n b : Nat} {h : Heap} (ho : HeapOk n h) : HeapOk n (h.set b .dead) := by
  intro c hc'
  by_cases ec : c = b
  · subst ec
    rcases Nat.lt_or_ge c h.length with hl | hl
    · rw [List.getElem?_set_self hl]
      exact ⟨fun _ _ he => by simp at he, fun _ _ _ _ he => by simp at he, fun _ he => by simp at he⟩
    · rw [List.getElem?_eq_none (by simpa using hl)]
      exact ⟨fun _ _ he => by simp at he, fun _ _ _ _ he => by simp at he, fun _ he => by simp at he⟩
  · rw [List.getElem?_set_ne (by omega)]
    exact ho c hc'
theorem strDataV_grow {base k : Nat} {u : TypeId} {h h' : Heap} {x v : V} (hs : strDataV h u k x = some (v, h')) : Grow base h h' := by
  unfold strDataV at hs
  split at hs
  · split at hs
    · injection hs with hs
      simp only [Prod.mk.injEq] at hs
      rw [← hs.2]
      exact Grow.refl _ _
    · simp at hs
  · split at hs
    · split at hs
      · simp only [Option.map_eq_some_iff, Prod.mk.injEq] at hs
        obtain ⟨_, _, _, rfl⟩ := hs
        exact ⟨by simp, fun m h1 h2 ho => ho.setDead⟩
      · simp at hs
    · simp at hs
  · simp at hs
def GrowO (base : Nat) (h : Heap) (x : Option (V × Heap)) : Prop := ∀ v h', x = some (v, h') → Grow base h h'
theorem GrowO.none {base : Nat} {h : Heap} : GrowO base h none := fun _ _ e => by simp at e
theorem GrowO.same {base : Nat} {h : Heap} {v : V} : GrowO base h (some (v, h)) := fun _ _ e => by
  simp only [Option.some.injEq, Prod.mk.injEq] at e
  rw [← e.2]
  exact Grow.refl _ _
theorem GrowO.app {base : Nat} {h : Heap} {v : V} {o : Obj} : GrowO base h (some (v, h ++ [o])) := fun _ _ e => by
  simp only [Option.some.injEq, Prod.mk.injEq] at e
  rw [← e.2]
  exact Grow.app _ _ _
theorem GrowO.map {α : Type} {base : Nat} {h : Heap} {x : Option α} {f : α → V} : GrowO base h (x.map fun a => (f a, h)) := fun _ _ e => by
  simp only [Option.map_eq_some_iff, Prod.mk.injEq] at e
  obtain ⟨_, _, _, rfl⟩ := e
  exact Grow.refl _ _
theorem GrowO.bind {α : Type} {base : Nat} {h : Heap} {x : Option α} {f : α → Option (V × Heap)} (hf : ∀ a, GrowO base h (f a)) : GrowO base h (x.bind f) := fun _ _ e => by
  simp only [Option.bind_eq_some_iff] at e
  obtain ⟨a, _, e⟩ := e
  exact hf a _ _ e
theorem GrowO.ite {base : Nat} {h : Heap} {c : Prop} [Decidable c] {x y : Option (V × Heap)} (hx : GrowO base h x) (hy : GrowO base h y) : GrowO base h (if c then x else y) := by
  split
  · exact hx
  · exact hy
theorem updateV_grow {base : Nat} {h h' : Heap} {kd : LK} {m k x : V} (hs : updateV base h kd m k x = some h') : Grow base h h' := by
  unfold updateV at hs
  simp only [Option.bind_eq_some_iff] at hs
  obtain ⟨key, _, hs⟩ := hs
  split at hs
  · rename_i b
    split at hs
    · rename_i es eq
      split at hs
      · rename_i hc
        simp only [Option.map_eq_some_iff] at hs
        obtain ⟨r, _, hs⟩ := hs
        have hx : ∀ n, b < n → n ≤ base → refsLt n x = true := fun n h1 h2 => by
          have := mayStore_refs hc.2 h1 h2
          simpa [refsLts] using this
        split at hs
        · subst hs
          refine ⟨by simp, fun n h1 h2 ho => ho.setMap fun hb e he => ?_⟩
          rcases List.mem_or_eq_of_mem_set he with he | rfl
          · exact (ho b hb).2.2 es eq e he
          · exact hx n hb h1
        · subst hs
          refine ⟨by simp, fun n h1 h2 ho => ho.setMap fun hb e he => ?_⟩
          rcases List.mem_append.1 he with he | he
          · exact (ho b hb).2.2 es eq e he
          · simp at he
            subst he
            exact hx n hb h1
      · simp at hs
    · simp at hs
  · simp at hs
theorem step_grow {base : Nat} {en : Env} {h h' : Heap} {op : AOp} {v : V} (hs : step base en h op = some (v, h')) : Grow base h h' := by
  refine (?_ : GrowO base h (step base en h op)) v h' hs
  clear hs v h'
  cases op <;> simp only [step]
  case store n a x =>
    intro v h' e
    simp only [Option.map_eq_some_iff, Prod.mk.injEq] at e
    obtain ⟨h2, h1, _, rfl⟩ := e
    exact storeV_grow h1
  case strData u x n =>
    split
    · refine GrowO.ite ?_ GrowO.none
      exact fun _ _ e => strDataV_grow e
    · exact GrowO.none
  case append t sz s x => exact GrowO.bind fun new => fun _ _ e => appendV_grow e
  case mapUpdate kd m k x =>
    intro v h' e
    simp only [Option.map_eq_some_iff, Prod.mk.injEq] at e
    obtain ⟨h2, h1, _, rfl⟩ := e
    exact updateV_grow h1
  case copy sz d x =>
    refine GrowO.bind fun new => fun _ _ e => ?_
    simp only [Option.map_eq_some_iff, Prod.mk.injEq] at e
    obtain ⟨⟨k, h2⟩, h1, _, rfl⟩ := e
    exact copyV_grow h1
  case slice sz x lo hi mx =>
    refine GrowO.bind fun l => ?_
    split
    · exact fun _ _ e => sliceV_grow e
    · exact GrowO.bind fun _ => fun _ _ e => sliceV_grow e
    · exact GrowO.bind fun _ => GrowO.bind fun _ => fun _ _ e => sliceV_grow e
    · exact GrowO.none
  all_goals repeat' first
    | exact GrowO.none
    | exact GrowO.same
    | exact GrowO.app
    | exact GrowO.map
    | refine GrowO.bind fun _ => ?_
    | refine GrowO.ite ?_ ?_
    | split
end Go.Am
end
