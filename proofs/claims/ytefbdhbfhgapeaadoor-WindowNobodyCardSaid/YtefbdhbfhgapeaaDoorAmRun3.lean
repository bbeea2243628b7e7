/- Am: one operation that is no call of a Go function, whole. -/
import Derived.Test.YtefbdhbfhgapeaaDoorAmRun2
namespace Go.Am
open Go.RowKit (Below)
section
variable {P : Program} {gl : Nat → Option (List V)} {G : Tie} {en : Env} {h h' : Heap} {a : Act} {w : World} {o : Oper} {base : Nat} {v : V}

theorem some_pair {α β : Type} {x : Option α} {y : β} {p : α × β} (h : (x.map fun v => (v, y)) = some p) : x = some p.1 ∧ p.2 = y := by
  simp only [Option.map_eq_some_iff] at h
  obtain ⟨a, rfl, rfl⟩ := h
  exact ⟨rfl, rfl⟩

/-- A mark on a block that is nobody's. -/
theorem mark_run (R : Rel G h w) (p : Addr) (hown : ∀ b, G.real h b ≠ some p.block) (hb0 : G.b0 ≤ p.block) : ∃ w', (markStringish p).run P w = .ok () w' ∧ Rel G h w' ∧ Below G.b0 w w' := by
  unfold markStringish
  cases hsh : w.shape? p.block with
  | none => exact ⟨w, by simp [hsh], R, Below.refl _ _⟩
  | some q =>
    obtain ⟨e, n⟩ := q
    refine ⟨w.freeze ⟨p.block, n, none⟩ 1, by simp [hsh], ?_⟩
    have hother : ∀ c, c ≠ p.block → (w.freeze ⟨p.block, n, none⟩ 1).heap[c]? = w.heap[c]? := by
      intro c hc
      unfold World.freeze
      rw [if_neg (by omega)]
      simp [Array.getElem?_modify, Ne.symm hc]
    have hcell : ∀ c oo, (w.freeze ⟨p.block, n, none⟩ 1).cell? ⟨c, oo, none⟩ = w.cell? ⟨c, oo, none⟩ := by
      intro c oo
      by_cases hc : c = p.block
      · subst hc
        unfold World.cell? World.freeze
        rw [if_neg (by omega)]
        simp only [Array.getElem?_modify, if_true]
        cases hb : w.heap[p.block]? with
        | none => rfl
        | some ob =>
          cases ob <;> rfl
      · unfold World.cell?
        rw [hother c hc]
    have hreal : ∀ b k, G.real h b = some k → k ≠ p.block := fun b k hk e => hown b (e ▸ hk)
    have hsize : (w.freeze ⟨p.block, n, none⟩ 1).heap.size = w.heap.size := by
      unfold World.freeze
      rw [if_neg (by omega)]
      simp
    refine ⟨⟨R.n, fun b oo v hv => by rw [hcell]; exact R.fz b oo v hv, fun b t cs e => ?_, fun b t sz e rows eq => ?_, R.low, R.inj, ?_⟩, ?_⟩
    · obtain ⟨h1, rs, h2, h3⟩ := R.box b t cs e
      refine ⟨h1, rs, ?_, h3⟩
      rw [hother _ (hreal b _ (by unfold Tie.real; rw [e]))]
      exact h2
    · obtain ⟨h0, L, rs, h1, h2, h3, h4, h5, h6⟩ := R.row b t sz e rows eq
      refine ⟨h0, L, rs, h1, h2, h3, h4, ?_, h6⟩
      rw [hother _ (hreal b _ (by unfold Tie.real; rw [eq]; simp [h1]))]
      exact h5
    · rw [hsize]; exact R.hb0
    · refine ⟨?_, ?_, ?_, by rw [hsize]; exact Nat.le_refl _, fun k hk => hother k (by omega)⟩ <;> (unfold World.freeze; rw [if_neg (by omega)])

theorem ok_bin {op : BinOp} {t ty : TypeId} {x y : Operand} {ao : AOp} (hop : o.op = .binOp op t x y ty) (hgl : GlobOk G gl) (he : RepEnv G en a.tmps) (R : Rel G h w) (hc : compBin P gl op t x y = some ao)
    (hs : step base en h ao = some (v, h')) : OpOk P o a G h' w v := by
  simp only [compBin, Option.bind_eq_some_iff] at hc
  obtain ⟨d, hd, x', hx, y', hy, hc⟩ := hc
  have hrx := opd_rep hgl he hx
  have hry := opd_rep hgl he hy
  have hbin : ao = .bin op x' y' → OpOk P o a G h' w v := by
    rintro rfl
    simp only [step] at hs
    obtain ⟨h1, h2⟩ := some_pair hs
    simp only at h1 h2
    subst h2
    obtain ⟨r, h3, h4⟩ := bin_run (P := P) (w := w) (t := t) (ox := x) (oy := y) hrx hry h1
    exact OpOk.quiet R (by simp only [execOp, hop]) h3 h4
  have hbool : ∀ neg, op = (if neg then .neq else .eql) → P.underlying t = some .bool → ao = .eqBool neg x' y' → OpOk P o a G h' w v := by
    rintro neg hopn ht rfl
    simp only [step] at hs
    split at hs
    · rename_i p q ep eq
      injection hs with hs
      simp only [Prod.mk.injEq] at hs
      obtain ⟨rfl, rfl⟩ := hs
      rw [ep] at hrx
      rw [eq] at hry
      have h3 := eqBool_run (P := P) (w := w) (neg := neg) (p := p) (q := q) (ox := x) (oy := y) ht
      rw [← hrx.sc_inv, ← hry.sc_inv, ← hopn] at h3
      exact OpOk.quiet R (by simp only [execOp, hop]) h3 (RepV.bool _ _)
    · simp at hs
  have hnil : ∀ neg k, op = (if neg then .neq else .eql) → nkOf d = some k → (isNilK k y = true ∧ ao = .isNil neg k x') ∨ (isNilK k x = true ∧ ao = .isNil neg k y') → OpOk P o a G h' w v := by
    intro neg k hopn hk hor
    have hnilv : ∀ z : Operand, isNilK k z = true → z = .const k.nilV := by
      intro z hz
      unfold isNilK at hz
      split at hz <;> first | rfl | simp at hz
    have hstep : ∀ z', ao = .isNil neg k z' → ∃ b, isNil k (z'.get en) = some b ∧ v = .bool (if neg then !b else b) ∧ h' = h := by
      rintro z' rfl
      simp only [step, Option.map_eq_some_iff, Prod.mk.injEq] at hs
      obtain ⟨b, h1, h2, h3⟩ := hs
      exact ⟨b, h1, h2.symm, h3.symm⟩
    rcases hor with ⟨hz, hao⟩ | ⟨hz, hao⟩
    · obtain ⟨b, h1, rfl, rfl⟩ := hstep _ hao
      have e := hnilv _ hz
      have h3 := (isNil_run (P := P) (w := w) (neg := neg) hd hk hrx h1 x y (.inr ⟨_, e⟩)).1
      have ey : a.eval y = k.nilV := by rw [e]; rfl
      rw [← hopn, ← ey] at h3
      exact OpOk.quiet R (by simp only [execOp, hop]) h3 (RepV.bool _ _)
    · obtain ⟨b, h1, rfl, rfl⟩ := hstep _ hao
      have e := hnilv _ hz
      have h3 := (isNil_run (P := P) (w := w) (neg := neg) hd hk hry h1 x y (.inl ⟨_, e⟩)).2
      have ex : a.eval x = k.nilV := by rw [e]; rfl
      rw [← hopn, ← ex] at h3
      exact OpOk.quiet R (by simp only [execOp, hop]) h3 (RepV.bool _ _)
  split at hc
  · injection hc with hc; exact hbin hc.symm
  · injection hc with hc; exact hbin hc.symm
  · split at hc
    · injection hc with hc; exact hbool false rfl hd hc.symm
    · injection hc with hc; exact hbool true rfl hd hc.symm
    · simp at hc
  · rename_i te
    split at hc
    · split at hc
      · split at hc
        · rename_i hz; injection hc with hc; exact hnil false .ptr rfl rfl (.inl ⟨hz, hc.symm⟩)
        · split at hc
          · rename_i hz; injection hc with hc; exact hnil false .ptr rfl rfl (.inr ⟨hz, hc.symm⟩)
          · simp at hc
      · split at hc
        · rename_i hz; injection hc with hc; exact hnil true .ptr rfl rfl (.inl ⟨hz, hc.symm⟩)
        · split at hc
          · rename_i hz; injection hc with hc; exact hnil true .ptr rfl rfl (.inr ⟨hz, hc.symm⟩)
          · simp at hc
      · simp at hc
    · simp only [Option.bind_eq_some_iff] at hc
      obtain ⟨s, hz, hc⟩ := hc
      split at hc
      · simp at hc
      · rename_i h0
        have fin : ∀ neg, op = (if neg then .neq else .eql) → ao = .eqPtr neg x' y' → OpOk P o a G h' w v := by
          rintro neg hopn rfl
          simp only [step, Option.map_eq_some_iff, Prod.mk.injEq] at hs
          obtain ⟨b, h1, rfl, rfl⟩ := hs
          have h3 := samePtr_run (P := P) R hopn hd hz h0 hrx hry h1 x y
          exact OpOk.quiet R (by simp only [execOp, hop]) h3 (RepV.bool _ _)
        split at hc
        · injection hc with hc; exact fin false rfl hc.symm
        · injection hc with hc; exact fin true rfl hc.symm
        · simp at hc
  · simp only [Option.bind_eq_some_iff] at hc
    obtain ⟨k, hk, hc⟩ := hc
    split at hc
    · split at hc
      · rename_i hz; injection hc with hc; exact hnil false k rfl hk (.inl ⟨hz, hc.symm⟩)
      · split at hc
        · rename_i hz; injection hc with hc; exact hnil false k rfl hk (.inr ⟨hz, hc.symm⟩)
        · simp at hc
    · split at hc
      · rename_i hz; injection hc with hc; exact hnil true k rfl hk (.inl ⟨hz, hc.symm⟩)
      · split at hc
        · rename_i hz; injection hc with hc; exact hnil true k rfl hk (.inr ⟨hz, hc.symm⟩)
        · simp at hc
    · simp at hc

theorem ok_conv {src dst : TypeId} {x : Operand} {ao : AOp} (hop : o.op = .convert src dst x) (hgl : GlobOk G gl) (he : RepEnv G en a.tmps) (R : Rel G h w) (hc : compConv P gl src dst x = some ao)
    (hs : step base en h ao = some (v, h')) : OpOk P o a G h' w v := by
  simp only [compConv, Option.bind_eq_some_iff] at hc
  obtain ⟨s, hsrc, d, hdst, x', hx, hc⟩ := hc
  have hrx := opd_rep hgl he hx
  split at hc
  · rename_i k0 k
    injection hc with hc
    subst hc
    simp only [step] at hs
    split at hs
    · rename_i j n e
      injection hs with hs
      simp only [Prod.mk.injEq] at hs
      obtain ⟨rfl, rfl⟩ := hs
      rw [e] at hrx
      refine OpOk.quiet (s := convert src dst (a.eval x)) R (by simp only [execOp, hop]) ?_ (RepV.int _ _ _)
      rw [hrx.sc_inv]
      simp [convert, run_underlying hsrc, run_underlying hdst, Conv.intToInt]
    · simp at hs
  · injection hc with hc
    subst hc
    simp only [step] at hs
    split at hs
    · rename_i s e
      injection hs with hs
      simp only [Prod.mk.injEq] at hs
      obtain ⟨rfl, rfl⟩ := hs
      rw [e] at hrx
      refine OpOk.quiet (s := convert src dst (a.eval x)) R (by simp only [execOp, hop]) ?_ (RepV.str _ _)
      rw [hrx.sc_inv]
      simp [convert, run_underlying hsrc, run_underlying hdst]
    · simp at hs
  · split at hc
    · rename_i e he'
      injection hc with hc
      subst hc
      simp only [step, Option.bind_eq_some_iff, Option.map_eq_some_iff, Prod.mk.injEq] at hs
      obtain ⟨rows, h1, l, h2, rfl, rfl⟩ := hs
      exact ok_strOf hop hgl he R hsrc hdst he' hx h1 h2
    · simp at hc
  · split at hc
    · rename_i e he'
      injection hc with hc
      subst hc
      simp only [step] at hs
      split at hs
      · rename_i s es
        split at hs
        · injection hs with hs
          simp only [Prod.mk.injEq] at hs
          obtain ⟨rfl, rfl⟩ := hs
          exact ok_bytesOf hop hgl he R hsrc hdst he' hx es
        · simp at hs
      · simp at hs
    · simp at hc
  · rename_i e0 e
    split at hc
    · rename_i esd
      subst esd
      split at hc
      · rename_i he'
        injection hc with hc
        subst hc
        simp only [step] at hs
        split at hs
        · rename_i r rs es
          injection hs with hs
          simp only [Prod.mk.injEq] at hs
          obtain ⟨rfl, rfl⟩ := hs
          rw [es] at hrx
          have hV := hrx
          simp only [RepV] at hrx
          obtain ⟨aa, cap, hr, hr1, hr2, hr3, b, oo, ha, hb0, hR⟩ := hrx
          rw [ha (by simp)] at hr
          have hee : e0 = e := by
            rw [hsrc] at hdst
            injection hdst with hdst
            injection hdst
          subst hee
          have hf : ∃ u, G.fz b oo = some u := by
            simp only [RepRows] at hR
            obtain ⟨h1, h2, _⟩ := hR
            cases r with
            | nil => simp at h1
            | cons c r =>
              simp only [RepF] at h2
              obtain ⟨⟨u, hu, _⟩, _⟩ := h2
              exact ⟨u, hu⟩
          obtain ⟨w', hm, hR', hbl⟩ := mark_run (P := P) R ⟨b, oo, none⟩ (fun k hk => by
            obtain ⟨u, hu⟩ := hf
            rw [(R.low k _ hk).2 oo] at hu
            simp at hu) (hb0 trivial (by simp))
          refine OpOk.value (s := convert src src (a.eval x)) (r := a.eval x) (w' := w') (by simp only [execOp, hop]) ?_ (Ext.refl G) hR' hV hbl
          rw [hr]
          simp [convert, run_underlying hsrc, run_underlying he', hm]
        · simp at hs
      · simp at hc
    · simp at hc
  · simp only [Option.bind_eq_some_iff] at hc
    obtain ⟨z, hz, hc⟩ := hc
    split at hc
    · simp at hc
    · rename_i h0
      injection hc with hc
      subst hc
      simp only [step] at hs
      obtain ⟨h1, h2⟩ := some_pair hs
      simp only at h1 h2
      subst h2
      obtain ⟨h3, h4⟩ := uncast_run (P := P) R hsrc hdst hz h0 hrx h1
      exact OpOk.quiet R (by simp only [execOp, hop]) h3 h4
  · simp only [Option.bind_eq_some_iff] at hc
    obtain ⟨z, hz, hc⟩ := hc
    split at hc
    · rename_i hl
      injection hc with hc
      subst hc
      simp only [step] at hs
      obtain ⟨h1, h2⟩ := some_pair hs
      simp only at h1 h2
      subst h2
      obtain ⟨h3, h4⟩ := cast_run (P := P) R hsrc hdst hz hl hrx h1
      exact OpOk.quiet R (by simp only [execOp, hop]) h3 h4
    · simp at hc
  · simp at hc

end
end Go.Am
