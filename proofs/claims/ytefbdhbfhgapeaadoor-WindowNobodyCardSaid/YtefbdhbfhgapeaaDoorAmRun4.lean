/- Am: one operation that is no call of a Go function, whole: slices, builtins; and all together. -/
import Derived.Test.YtefbdhbfhgapeaaDoorAmRun3
namespace Go.Am
open Go.RowKit (Below)
section
variable {P : Program} {gl : Nat → Option (List V)} {G : Tie} {en : Env} {h h' : Heap} {a : Act} {w : World} {o : Oper} {base : Nat} {v : V}

theorem ok_sliceStr {t : TypeId} {x : Operand} {lo hi : Option Operand} {x' : Opd} {lo' hi' : Option Opd} (hop : o.op = .slice t x lo hi none) (hgl : GlobOk G gl) (he : RepEnv G en a.tmps) (R : Rel G h w) (ht : P.underlying t = some .string)
    (hx : opd gl x = some x') (hl : opdO gl lo = some lo') (hh : opdO gl hi = some hi') (hs : step base en h (.sliceStr x' lo' hi') = some (v, h')) : OpOk P o a G h' w v := by
  have hrx := opd_rep hgl he hx
  simp only [step] at hs
  split at hs
  · rename_i s es
    simp only [Option.bind_eq_some_iff] at hs
    obtain ⟨l, h1, e, h2, hs⟩ := hs
    split at hs
    · rename_i hc
      injection hs with hs
      simp only [Prod.mk.injEq] at hs
      obtain ⟨rfl, rfl⟩ := hs
      rw [es] at hrx
      have h3 := sliceStr_run (P := P) (w := w) ht (boundO_OB hgl he hl h1) (boundO_OB hgl he hh h2) hc.1 hc.2
      rw [← hrx.sc_inv] at h3
      exact OpOk.quiet R (by simp only [execOp, hop, Option.map_none]) h3 (RepV.str _ _)
    · simp at hs
  · simp at hs

theorem ok_slice {t e : TypeId} {sz : Nat} {x : Operand} {lo hi mx : Option Operand} {x' : Opd} {lo' hi' mx' : Option Opd} (hop : o.op = .slice t x lo hi mx) (hgl : GlobOk G gl) (he : RepEnv G en a.tmps) (R : Rel G h w)
    (ht : P.underlying t = some (.slice e)) (hg : growElem P e = some sz)
    (hx : opd gl x = some x') (hl : opdO gl lo = some lo') (hh : opdO gl hi = some hi') (hm : opdO gl mx = some mx') (hs : step base en h (.slice sz x' lo' hi' mx') = some (v, h')) : OpOk P o a G h' w v := by
  have hrx := opd_rep hgl he hx
  obtain ⟨i, z, hi1, hz1, rfl, _⟩ := growElem_inv hg
  have hsz : sizeO P e = some i.size := by simp [sizeO, hi1]
  simp only [step, Option.bind_eq_some_iff] at hs
  obtain ⟨l, h1, hs⟩ := hs
  have hlo := boundO_OB hgl he hl h1
  have some_inv : ∀ {q : Option Operand} {y : Opd}, opdO gl q = some (some y) → ∃ z, q = some z ∧ opd gl z = some y := by
    intro q y hq
    cases q with
    | none => simp [opdO] at hq
    | some z =>
      simp only [opdO, Option.map_eq_some_iff, Option.some.injEq] at hq
      obtain ⟨u, hu, rfl⟩ := hq
      exact ⟨z, rfl, hu⟩
  have none_inv : ∀ {q : Option Operand}, opdO gl q = some none → q = none := by
    intro q hq
    cases q with
    | none => rfl
    | some z => simp [opdO] at hq
  have fin : ∀ {hin mxn : Option Nat}, (∀ d, OB d (hi.map a.eval) (hin.getD d)) → (∀ d, OB d (mx.map a.eval) (mxn.getD d)) → (hi.map a.eval = none → mx.map a.eval = none) → (mxn = none ↔ mx.map a.eval = none) → (hin = none → mxn = none) →
      sliceV h i.size (x'.get en) l hin mxn = some (v, h') → OpOk P o a G h' w v := by
    intro hin mxn a1 a2 a3 a4 a5 hv
    obtain ⟨r, G', h3, h4, h5, h6⟩ := sliceV_run R ht hsz hrx hlo a1 a2 a3 a4 a5 hv
    exact OpOk.value (by simp only [execOp, hop]) h3 h4 h5 h6 (Below.refl _ _)
  split at hs
  · have e1 := none_inv hh
    have e2 := none_inv hm
    subst e1; subst e2
    exact fin (fun d => .inl ⟨rfl, rfl⟩) (fun d => .inl ⟨rfl, rfl⟩) (fun _ => rfl) (by simp) (fun _ => rfl) hs
  · rename_i eo
    have e2 := none_inv hm
    obtain ⟨z1, rfl, hz⟩ := some_inv hh
    subst e2
    simp only [Option.bind_eq_some_iff] at hs
    obtain ⟨en1, h2, hs⟩ := hs
    obtain ⟨k, i1, b1, b2, b3⟩ := asNat_run (opd_rep hgl he hz) h2
    exact fin (fun d => .inr ⟨k, i1, by simp [b1], b2, by simpa using b3⟩) (fun d => .inl ⟨rfl, rfl⟩) (fun _ => rfl) (by simp) (fun _ => rfl) hs
  · rename_i eo mo
    obtain ⟨z1, rfl, hz⟩ := some_inv hh
    obtain ⟨z2, rfl, hz2⟩ := some_inv hm
    simp only [Option.bind_eq_some_iff] at hs
    obtain ⟨en1, h2, m, h3, hs⟩ := hs
    obtain ⟨k, i1, b1, b2, b3⟩ := asNat_run (opd_rep hgl he hz) h2
    obtain ⟨k', i2, c1, c2, c3⟩ := asNat_run (opd_rep hgl he hz2) h3
    exact fin (fun d => .inr ⟨k, i1, by simp [b1], b2, by simpa using b3⟩) (fun d => .inr ⟨k', i2, by simp [c1], c2, by simpa using c3⟩) (by simp) (by simp) (by simp) hs
  · simp at hs

theorem ok_sliceArr {t e : TypeId} {n sz : Nat} {x : Operand} {lo hi : Option Operand} {x' : Opd} {lo' hi' : Option Opd} (hop : o.op = .slice t x lo hi none) (hgl : GlobOk G gl) (he : RepEnv G en a.tmps) (R : Rel G h w)
    (ht : P.underlying t = some (.array n e)) (hg : growElem P e = some sz)
    (hx : opd gl x = some x') (hl : opdO gl lo = some lo') (hh : opdO gl hi = some hi') (hs : step base en h (.sliceArr n sz x' lo' hi') = some (v, h')) : OpOk P o a G h' w v := by
  have hrx := opd_rep hgl he hx
  obtain ⟨i, z, hi1, hz1, rfl, _⟩ := growElem_inv hg
  have hsz : sizeO P e = some i.size := by simp [sizeO, hi1]
  simp only [step] at hs
  split at hs
  · rename_i cs l e' es h1 h2
    split at hs
    · rename_i hc
      obtain ⟨rfl, rfl, hnc, hpos, hn0⟩ := hc
      injection hs with hs
      simp only [Prod.mk.injEq] at hs
      obtain ⟨rfl, rfl⟩ := hs
      rw [es] at hrx
      simp only [RepV, Nat.add_zero] at hrx
      obtain ⟨b, oo, hr, hgr, hF⟩ := hrx
      have hb := bounds_run (P := P) (w := w) (b := false) (len := e') (cap := e') (boundO_OB hgl he hl h1) (boundO_OB hgl he hh h2) (.inl ⟨rfl, rfl⟩ : OB e' none e') (by simp) (Nat.zero_le _) (Nat.le_refl _) (Nat.le_refl _)
      refine OpOk.quiet (s := Instr.sliceAt t (a.eval x) (lo.map a.eval) (hi.map a.eval) none) (r := .slice (some ⟨b, oo, none⟩) e' e') R (by simp only [execOp, hop, Option.map_none]) ?_ ?_
      · rw [hr]
        simp [Instr.sliceAt, run_underlying ht w, Instr.sureAddr, hb, sizeO_run hsz w, Addr.add]
      · have hlen : ((List.range e').map fun k => (cs.drop (k * i.size)).take i.size).length = e' := by simp
        simp only [RepV]
        refine ⟨_, _, by rw [hlen], by rw [hlen]; exact Nat.le_refl _, fun _ => by rw [hlen], ?_, b, oo, fun _ => rfl, by simp, RepRows.of_get fun k c hk => ?_⟩
        · rw [List.all_eq_true]
          intro r hr
          simp only [List.mem_map] at hr
          obtain ⟨k, _, rfl⟩ := hr
          rw [List.all_eq_true] at hgr ⊢
          exact fun y hy => hgr y (List.mem_of_mem_drop (List.mem_of_mem_take hy))
        · simp only [List.getElem?_map, Option.map_eq_some_iff] at hk
          obtain ⟨k', hk', rfl⟩ := hk
          have hkl : k < e' := by
            rcases Nat.lt_or_ge k e' with hl | hl
            · exact hl
            · rw [List.getElem?_eq_none (by simpa using hl)] at hk'
              simp at hk'
          rw [List.getElem?_range hkl] at hk'
          injection hk' with hk'
          subst hk'
          have hroom : k * i.size + i.size ≤ cs.length := row_room (rs := Array.replicate cs.length undef) (by simpa using hnc.symm) (Nat.le_refl _) hkl |> fun h => by simpa using h
          refine ⟨by simp; omega, RepF.of_get fun j c hj => ?_⟩
          rw [List.getElem?_take] at hj
          split at hj
          · rw [List.getElem?_drop] at hj
            have := hF.get hj
            rwa [← Nat.add_assoc] at this
          · simp at hj
    · simp at hs
  · rename_i b ep l e' es h1 h2
    split at hs
    · rename_i z rows hra
      split at hs
      · rename_i hc
        obtain ⟨rfl, rfl, hle, hen⟩ := hc
        injection hs with hs
        simp only [Prod.mk.injEq] at hs
        obtain ⟨rfl, rfl⟩ := hs
        rw [es] at hrx
        obtain ⟨ty, eq, hpos, L, rs, hL, hLe, hLs, hcp, hw, hss, hB⟩ := R.rowAt hra
        simp only [RepV] at hrx
        obtain ⟨hb', a', hr, hLx⟩ := hrx
        obtain ⟨k1, k2⟩ := hLx L hL
        have ha := k2 hLe.symm
        simp only [Nat.zero_mul, Nat.zero_add] at ha
        subst ha
        have hb := bounds_run (P := P) (w := w) (b := false) (len := rows.length) (cap := rows.length) (boundO_OB hgl he hl h1) (boundO_OB hgl he hh h2) (.inl ⟨rfl, rfl⟩ : OB rows.length none rows.length) (by simp) hle hen (Nat.le_refl _)
        refine OpOk.quiet (s := Instr.sliceAt t (a.eval x) (lo.map a.eval) (hi.map a.eval) none) (r := .slice (some (if rows.length = l then ⟨L.blk, 0, none⟩ else ⟨L.blk, l * i.size, none⟩)) (e' - l) (rows.length - l)) R (by simp only [execOp, hop, Option.map_none]) ?_ ?_
        · rw [hr]
          by_cases hq : rows.length = l
          · rw [if_pos hq]
            simp [Instr.sliceAt, run_underlying ht w, Instr.sureAddr, hb, sizeO_run hsz w, add_none]
            intro hq'
            exact absurd hq hq'
          · rw [if_neg hq]
            simp [Instr.sliceAt, run_underlying ht w, Instr.sureAddr, hb, sizeO_run hsz w, add_none]
            intro hq'
            exact absurd (by omega) hq
        · simp only [RepV]
          refine ⟨hb', _, _, rfl, fun L' hL' => ?_⟩
          rw [hL] at hL'
          injection hL' with hL'
          subst hL'
          exact ⟨k1, fun _ => ⟨by omega, by omega, fun h0 => by rw [if_neg (by omega), hLs]⟩⟩
      · simp at hs
    · simp at hs
  · simp at hs

theorem ok_minmax {mx : Bool} {ts : Array TypeId} {xs : Array Operand} {ys : List Opd} (hop : o.op = .call { callee := .builtin (if mx then .max else .min), args := xs, argTypes := ts }) (hgl : GlobOk G gl) (he : RepEnv G en a.tmps) (R : Rel G h w)
    (hx : opds gl xs.toList = some ys) (hs : step base en h (.mnmx mx ys) = some (v, h')) : OpOk P o a G h' w v := by
  have hr := opds_rep hgl he hx
  simp only [step] at hs
  split at hs
  · rename_i y r ey
    obtain ⟨h1, h2⟩ := some_pair hs
    simp only at h1 h2
    subst h2
    rw [ey] at hr
    simp only [RepL] at hr
    obtain ⟨q, rest, eq, hq, hrest⟩ := hr
    obtain ⟨z, h3, h4⟩ := minmax_run (P := P) (w := w) mx ts 0 hq hrest h1
    refine ⟨z, w, G, .inl ?_, Ext.refl G, R, h4, Below.refl _ _⟩
    have hargs : (xs.map a.eval).toList = q :: rest := by simpa using eq
    cases mx
    · simp only [Bool.false_eq_true, if_false] at hop h3
      simp only [execOp, hop, resolve, Sem.run_bind, Sem.run_pure, Result.andThen_ok, invoke, builtin, Builtin.min_, hargs, h3]
    · simp only [if_true] at hop h3
      simp only [execOp, hop, resolve, Sem.run_bind, Sem.run_pure, Result.andThen_ok, invoke, builtin, Builtin.max_, hargs, h3]
  · simp at hs

theorem step_run (hgl : GlobOk G gl) (he : RepEnv G en a.tmps) (R : Rel G h w) {ao : AOp} (hc : compOp P gl o.op = some ao) (hs : step base en h ao = some (v, h')) : OpOk P o a G h' w v := by
  cases hop : o.op <;> rw [hop] at hc <;> simp only [compOp, reduceCtorEq] at hc
  case move x =>
    simp only [Option.map_eq_some_iff] at hc
    obtain ⟨y, hy, rfl⟩ := hc
    simp only [step, Option.some.injEq, Prod.mk.injEq] at hs
    obtain ⟨rfl, rfl⟩ := hs
    exact ok_move (.inl hop) hgl he R hy
  case assign x =>
    simp only [Option.map_eq_some_iff] at hc
    obtain ⟨y, hy, rfl⟩ := hc
    simp only [step, Option.some.injEq, Prod.mk.injEq] at hs
    obtain ⟨rfl, rfl⟩ := hs
    exact ok_move (.inr hop) hgl he R hy
  case pick c x y =>
    simp only [Option.bind_eq_some_iff, Option.map_eq_some_iff] at hc
    obtain ⟨c', h1, x', h2, y', h3, rfl⟩ := hc
    simp only [step] at hs
    split at hs
    · rename_i t ht
      simp only [Option.some.injEq, Prod.mk.injEq] at hs
      obtain ⟨rfl, rfl⟩ := hs
      exact ok_pick hop hgl he R h1 h2 h3 ht
    · simp at hs
  case alloc t =>
    simp only [Option.map_eq_some_iff] at hc
    obtain ⟨zs, hz, hc⟩ := hc
    split at hc
    · subst hc
      exact ok_allocA hop R hz hs
    · subst hc
      simp only [step, Option.some.injEq, Prod.mk.injEq] at hs
      obtain ⟨rfl, rfl⟩ := hs
      exact ok_alloc hop R hz
  case box t x =>
    simp only [Option.map_eq_some_iff] at hc
    obtain ⟨y, hy, hc⟩ := hc
    split at hc
    · subst hc
      exact ok_boxF hop hgl he R hy hs
    split at hc
    · subst hc
      exact ok_boxA hop hgl he R hy hs
    · subst hc
      simp only [step] at hs
      split at hs
      · rename_i hone
        simp only [Option.some.injEq, Prod.mk.injEq] at hs
        obtain ⟨rfl, rfl⟩ := hs
        exact ok_box hop hgl he R hy hone
      · simp at hs
  case build t ps =>
    simp only [Option.bind_eq_some_iff] at hc
    obtain ⟨d, hd, hc⟩ := hc
    split at hc
    · rename_i fs
      simp only [Option.bind_eq_some_iff, Option.map_eq_some_iff] at hc
      obtain ⟨zs, hz, pl, hp, qs, hq, rfl⟩ := hc
      simp only [step, Option.map_eq_some_iff, Prod.mk.injEq] at hs
      obtain ⟨cs, hf, rfl, rfl⟩ := hs
      exact ok_build hop hgl he R hd hz (.inl ⟨fs, pl, rfl, hp, hq⟩) hf
    · rename_i n e
      simp only [Option.bind_eq_some_iff, Option.map_eq_some_iff] at hc
      obtain ⟨zs, hz, s, hs', qs, hq, rfl⟩ := hc
      simp only [step, Option.map_eq_some_iff, Prod.mk.injEq] at hs
      obtain ⟨cs, hf, rfl, rfl⟩ := hs
      exact ok_build hop hgl he R hd hz (.inr ⟨n, e, s, rfl, hs', hq⟩) hf
    · simp at hc
  case buildSlice t n ps =>
    simp only [Option.bind_eq_some_iff] at hc
    obtain ⟨d, hd, hc⟩ := hc
    split at hc
    · rename_i e
      simp only [Option.bind_eq_some_iff] at hc
      obtain ⟨sz, hg, zs, hz, hc⟩ := hc
      split at hc
      · rename_i hn
        simp only [Option.map_eq_some_iff] at hc
        obtain ⟨qs, hq, rfl⟩ := hc
        exact ok_bslice hop hgl he R hd hg hz hn hq hs
      · simp at hc
    · simp at hc
  case load t x =>
    simp only [Option.bind_eq_some_iff, Option.map_eq_some_iff] at hc
    obtain ⟨n, hn, y, hy, rfl⟩ := hc
    simp only [step] at hs
    obtain ⟨h1, h2⟩ := some_pair hs
    simp only at h1 h2
    subst h2
    exact ok_load hop hgl he R hn hy h1
  case store t x y =>
    simp only [Option.bind_eq_some_iff, Option.map_eq_some_iff] at hc
    obtain ⟨n, hn, x', hx, y', hy, rfl⟩ := hc
    simp only [step, Option.map_eq_some_iff, Prod.mk.injEq] at hs
    obtain ⟨h2, h1, rfl, rfl⟩ := hs
    exact ok_store hop hgl he R hn hx hy h1
  case nilCheck x =>
    simp only [Option.map_eq_some_iff] at hc
    obtain ⟨y, hy, rfl⟩ := hc
    obtain ⟨h1, h2, rfl⟩ := nilCheck_run (P := P) (w := w) (ρ := a.eval) hop (opd_rep hgl he hy) hs
    exact ⟨_, w, G, .inl h1, Ext.refl G, R, h2, Below.refl _ _⟩
  case binOp op t x y ty =>
    split at hc
    · rename_i fs ht
      simp only [Option.bind_eq_some_iff] at hc
      obtain ⟨ls, hl, x', hx, y', hy, hc⟩ := hc
      have fin : ∀ neg, op = (if neg then .neq else .eql) → ao = .eqAgg neg ls x' y' → OpOk P o a G h' w v := by
        rintro neg hopn rfl
        have hrx := opd_rep hgl he hx
        have hry := opd_rep hgl he hy
        simp only [step] at hs
        split at hs
        · rename_i xs ys e1 e2
          simp only [Option.map_eq_some_iff, Prod.mk.injEq] at hs
          obtain ⟨res, h1, rfl, rfl⟩ := hs
          rw [e1] at hrx
          rw [e2] at hry
          have h3 := eqAgg_run (P := P) (w := w) (neg := neg) (ox := x) (oy := y) ht hl hrx hry h1
          rw [← hopn] at h3
          exact OpOk.quiet R (by simp only [execOp, hop]) h3 (RepV.bool _ _)
        · simp at hs
      split at hc
      · injection hc with hc; exact fin false rfl hc.symm
      · injection hc with hc; exact fin true rfl hc.symm
      · simp at hc
    · exact ok_bin hop hgl he R hc hs
  case unOp op t x =>
    simp only [Option.map_eq_some_iff] at hc
    obtain ⟨y, hy, rfl⟩ := hc
    simp only [step] at hs
    obtain ⟨h1, h2⟩ := some_pair hs
    simp only at h1 h2
    subst h2
    obtain ⟨r, h3, h4⟩ := un_run (P := P) (w := w) (opd_rep hgl he hy) h1
    exact OpOk.quiet R (by simp only [execOp, hop]) h3 h4
  case convert s d x => exact ok_conv hop hgl he R hc hs
  case makeInterface t x =>
    simp only [Option.bind_eq_some_iff] at hc
    obtain ⟨d, hd, hc⟩ := hc
    have fin : ∀ y, opd gl x = some y → ao = .makeIface t y → (∀ ms, d ≠ .interface ms) → OpOk P o a G h' w v := by
      rintro y hy rfl hni
      simp only [step] at hs
      split at hs
      · simp only [Option.some.injEq, Prod.mk.injEq] at hs
        obtain ⟨rfl, rfl⟩ := hs
        refine OpOk.quiet (s := Instr.makeInterface t (a.eval x)) (r := .iface t (a.eval x)) R (by simp only [execOp, hop]) ?_ (by simp only [RepV]; exact ⟨_, rfl, opd_rep hgl he hy⟩)
        simp only [Instr.makeInterface, Sem.run_bind, run_underlying hd w, Result.andThen_ok]
        cases d <;> first | rfl | exact absurd rfl (hni _)
      · simp at hs
    split at hc
    · simp at hc
    · rename_i hni
      simp only [Option.map_eq_some_iff] at hc
      obtain ⟨y, hy, rfl⟩ := hc
      exact fin y hy rfl hni
  case makeFunc f x c =>
    simp only [Option.bind_eq_some_iff, Option.map_eq_some_iff] at hc
    obtain ⟨x', hx, c', hcc, rfl⟩ := hc
    simp only [step, Option.some.injEq, Prod.mk.injEq] at hs
    obtain ⟨rfl, rfl⟩ := hs
    refine OpOk.quiet (s := Instr.makeFunc f (x.map a.eval) (c.map a.eval)) (r := .func f (x.map a.eval) (c.map a.eval)) R (by simp only [execOp, hop]) rfl ?_
    simp only [RepV]
    exact ⟨_, _, rfl, by simpa using opds_rep hgl he hx, by simpa using opds_rep hgl he hcc⟩
  case makeSlice t l c =>
    simp only [Option.bind_eq_some_iff] at hc
    obtain ⟨d, hd, hc⟩ := hc
    split at hc
    · rename_i e
      simp only [Option.bind_eq_some_iff] at hc
      obtain ⟨sz, hg, zs, hz, hc⟩ := hc
      split at hc
      · simp only [Option.bind_eq_some_iff, Option.map_eq_some_iff] at hc
        obtain ⟨l', hl, c', hcc, rfl⟩ := hc
        exact ok_makeSlice hop hgl he R hd hg hz hl hcc hs
      · simp at hc
    · simp at hc
  case slice t x lo hi mx =>
    simp only [Option.bind_eq_some_iff] at hc
    obtain ⟨d, hd, x', hx, lo', hl, hi', hh, mx', hm, hc⟩ := hc
    have hmn : mx'.isNone = true → mx = none := by
      intro e
      cases mx with
      | none => rfl
      | some m =>
        simp only [opdO, Option.map_eq_some_iff] at hm
        obtain ⟨q, _, rfl⟩ := hm
        simp at e
    split at hc
    · split at hc
      · rename_i e
        have := hmn e
        subst this
        injection hc with hc
        subst hc
        exact ok_sliceStr hop hgl he R hd hx hl hh hs
      · simp at hc
    · simp only [Option.map_eq_some_iff] at hc
      obtain ⟨sz, hg, rfl⟩ := hc
      exact ok_slice hop hgl he R hd hg hx hl hh hm hs
    · split at hc
      · rename_i e
        have := hmn e
        subst this
        simp only [Option.map_eq_some_iff] at hc
        obtain ⟨sz, hg, rfl⟩ := hc
        exact ok_sliceArr hop hgl he R hd hg hx hl hh hs
      · simp at hc
    · simp at hc
  case fieldAddr t x i =>
    simp only [Option.bind_eq_some_iff] at hc
    obtain ⟨d, hd, hc⟩ := hc
    split at hc
    · rename_i fs
      simp only [Option.bind_eq_some_iff] at hc
      obtain ⟨f, hf, s, hs', hc⟩ := hc
      split at hc
      · rename_i hpos
        simp only [Option.map_eq_some_iff] at hc
        obtain ⟨y, hy, rfl⟩ := hc
        simp only [step] at hs
        obtain ⟨h1, h2⟩ := some_pair hs
        simp only at h1 h2
        subst h2
        obtain ⟨r, h3, h4⟩ := fieldAddr_run (P := P) (w := w) hd hf hs' hpos (opd_rep hgl he hy) h1
        exact OpOk.quiet R (by simp only [execOp, hop]) h3 h4
      · simp at hc
    · simp at hc
  case field t x i =>
    simp only [Option.bind_eq_some_iff] at hc
    obtain ⟨d, hd, hc⟩ := hc
    split at hc
    · rename_i fs
      simp only [Option.bind_eq_some_iff, Option.map_eq_some_iff] at hc
      obtain ⟨f, hf, n, hn, y, hy, rfl⟩ := hc
      have hrx := opd_rep hgl he hy
      simp only [step] at hs
      split at hs
      · rename_i cs e
        obtain ⟨h1, h2⟩ := some_pair hs
        simp only at h1 h2
        subst h2
        rw [e] at hrx
        obtain ⟨r, h3, h4⟩ := field_run (P := P) (w := w) hd hf hn hrx h1
        exact OpOk.quiet R (by simp only [execOp, hop]) h3 h4
      · simp at hs
    · simp at hc
  case indexAddr t x i =>
    simp only [Option.bind_eq_some_iff] at hc
    obtain ⟨d, hd, x', hx, i', hi, hc⟩ := hc
    split at hc
    · rename_i e
      simp only [Option.map_eq_some_iff] at hc
      obtain ⟨s, hs', rfl⟩ := hc
      simp only [step, Option.bind_eq_some_iff] at hs
      obtain ⟨k, hk, hs⟩ := hs
      obtain ⟨h1, h2⟩ := some_pair hs
      simp only at h1 h2
      subst h2
      obtain ⟨r, h3, h4⟩ := indexS_run (P := P) R hd hs' (opd_rep hgl he hx) (opd_rep hgl he hi) hk h1
      exact OpOk.quiet R (by simp only [execOp, hop]) h3 h4
    · rename_i n e
      simp only [Option.map_eq_some_iff] at hc
      obtain ⟨s, hs', rfl⟩ := hc
      simp only [step, Option.bind_eq_some_iff] at hs
      obtain ⟨k, hk, hs⟩ := hs
      split at hs
      · rename_i hlt
        obtain ⟨h1, h2⟩ := some_pair hs
        simp only at h1 h2
        subst h2
        obtain ⟨r, h3, h4⟩ := indexA_run (P := P) (w := w) hd hs' (opd_rep hgl he hx) (opd_rep hgl he hi) hk hlt h1
        exact OpOk.quiet R (by simp only [execOp, hop]) h3 h4
      · simp at hs
    · simp at hc
  case index t x i =>
    simp only [Option.bind_eq_some_iff] at hc
    obtain ⟨d, hd, x', hx, i', hi, hc⟩ := hc
    split at hc
    · rename_i n e
      simp only [Option.bind_eq_some_iff, Option.map_eq_some_iff] at hc
      obtain ⟨m, hm, s, hs', rfl⟩ := hc
      simp only [step, Option.bind_eq_some_iff] at hs
      obtain ⟨k, hk, hs⟩ := hs
      have hrx := opd_rep hgl he hx
      split at hs
      · rename_i hlt
        split at hs
        · rename_i cs ec
          obtain ⟨h1, h2⟩ := some_pair hs
          simp only at h1 h2
          subst h2
          rw [ec] at hrx
          obtain ⟨r, h3, h4⟩ := idxArr_run (P := P) (w := w) hd hm hs' hrx (opd_rep hgl he hi) hk hlt h1
          exact OpOk.quiet R (by simp only [execOp, hop]) h3 h4
        · simp at hs
      · simp at hs
    · injection hc with hc
      subst hc
      simp only [step, Option.bind_eq_some_iff] at hs
      obtain ⟨k, hk, hs⟩ := hs
      have hrx := opd_rep hgl he hx
      split at hs
      · rename_i s es
        simp only [Option.map_eq_some_iff, Prod.mk.injEq] at hs
        obtain ⟨c, h1, rfl, rfl⟩ := hs
        rw [es] at hrx
        have h3 := idxStr_run (P := P) (w := w) hd hrx (opd_rep hgl he hi) hk h1
        exact OpOk.quiet R (by simp only [execOp, hop]) h3 (RepV.int _ _ _)
      · simp at hs
    · simp at hc
  case extract x i =>
    simp only [Option.map_eq_some_iff] at hc
    obtain ⟨y, hy, rfl⟩ := hc
    have hrx := opd_rep hgl he hy
    simp only [step] at hs
    split at hs
    · rename_i vs es
      obtain ⟨h1, h2⟩ := some_pair hs
      simp only at h1 h2
      subst h2
      rw [es] at hrx
      simp only [RepV] at hrx
      obtain ⟨rs, hr, hl⟩ := hrx
      obtain ⟨r, h3, h4⟩ := hl.get h1
      refine OpOk.quiet (s := Instr.extract (a.eval x) i) R (by simp only [execOp, hop]) ?_ h4
      rw [hr]
      rw [Array.getElem?_toList] at h3
      simp [Instr.extract, h3]
    · simp at hs
  case call c =>
    obtain ⟨callee, args, ts⟩ := c
    simp only [compCall] at hc
    split at hc
    · simp only [Option.bind_eq_some_iff, Option.map_eq_some_iff] at hc
      obtain ⟨f, hf, xs, hx, rfl⟩ := hc
      simp [step] at hs
    · rename_i b
      have hres : execOp a.eval o = builtin b ts o.type (args.map fun | .const _ => true | _ => false) (args.map a.eval) := by
        simp only [execOp, hop, resolve]
        rfl
      unfold compBuiltin at hc
      split at hc
      · rename_i t x e1 e2
        have ets : ts = #[t] := by rw [← Array.toArray_toList (xs := ts), e1]
        have exs : args = #[x] := by rw [← Array.toArray_toList (xs := args), e2]
        subst ets; subst exs
        simp only [Option.bind_eq_some_iff] at hc
        obtain ⟨d, hd, hc⟩ := hc
        have hgo : ∀ {n : Nat}, (Builtin.len_ #[t] o.type #[a.eval x]).run P w = .ok (goInt n) w → v = .int n → h' = h → OpOk P o a G h' w v := by
          rintro n h1 rfl rfl
          refine ⟨goInt n, w, G, .inl ?_, Ext.refl G, R, RepV.int _ _ _, Below.refl _ _⟩
          rw [hres]
          simp only [builtin, List.map_toArray, List.map_cons, List.map_nil, Sem.run_bind, h1, Result.andThen_ok]
          rfl
        split at hc
        · simp only [Option.map_eq_some_iff] at hc
          obtain ⟨y, hy, rfl⟩ := hc
          have hrx := opd_rep hgl he hy
          simp only [step] at hs
          split at hs
          · rename_i s es
            simp only [Option.some.injEq, Prod.mk.injEq] at hs
            rw [es] at hrx
            refine hgo (n := s.size) ?_ hs.1.symm hs.2.symm
            rw [hrx.sc_inv]
            simp [Builtin.len_, run_underlying hd w]
          · simp at hs
        · simp only [Option.map_eq_some_iff] at hc
          obtain ⟨y, hy, rfl⟩ := hc
          have hrx := opd_rep hgl he hy
          simp only [step] at hs
          obtain ⟨h1, h2⟩ : ∃ n : Nat, slcLen (y.get en) = some n ∧ v = .int n ∧ h' = h := by
            simp only [Option.map_eq_some_iff, Prod.mk.injEq] at hs
            obtain ⟨n, h1, h2, h3⟩ := hs
            exact ⟨n, h1, h2.symm, h3.symm⟩
          rename_i e0 n
          have hsl : ∃ b c, a.eval x = .slice b h1 c := by
            obtain ⟨h2, _⟩ := h2
            unfold slcLen at h2
            split at h2
            · rename_i ee
              rw [ee] at hrx
              injection h2 with h2
              subst h2
              simp only [RepV] at hrx
              obtain ⟨b, c, hr, _⟩ := hrx
              exact ⟨b, c, hr⟩
            · rename_i ee
              rw [ee] at hrx
              injection h2 with h2
              subst h2
              simp only [RepV] at hrx
              obtain ⟨_, b, c, hr, _⟩ := hrx
              exact ⟨_, c, hr⟩
            · rename_i ee
              rw [ee] at hrx
              injection h2 with h2
              subst h2
              exact ⟨none, 0, hrx.sc_inv⟩
            · simp at h2
          obtain ⟨b, c, hr⟩ := hsl
          refine hgo (n := h1) ?_ h2.2.1 h2.2.2
          rw [hr]
          simp [Builtin.len_, run_underlying hd w]
        · rename_i n e
          injection hc with hc
          subst hc
          simp only [step, Option.some.injEq, Prod.mk.injEq] at hs
          refine hgo (n := n) ?_ hs.1.symm hs.2.symm
          simp [Builtin.len_, run_underlying hd w]
        · simp at hc
      · rename_i t u s x e1 e2
        have ets : ts = #[t, u] := by rw [← Array.toArray_toList (xs := ts), e1]
        have exs : args = #[s, x] := by rw [← Array.toArray_toList (xs := args), e2]
        subst ets; subst exs
        simp only [Option.bind_eq_some_iff] at hc
        obtain ⟨d, hd, hc⟩ := hc
        split at hc
        · rename_i e
          simp only [Option.bind_eq_some_iff] at hc
          obtain ⟨sz, hg, du, hdu, hc⟩ := hc
          have fin : (P.underlying u = some .string ∨ ∃ e', P.underlying u = some (.slice e')) → ∀ s' x', opd gl s = some s' → opd gl x = some x' → ao = .append e sz s' x' → OpOk P o a G h' w v := by
            rintro hu s' x' hs' hx' rfl
            simp only [step, Option.bind_eq_some_iff] at hs
            obtain ⟨new, h1, h2⟩ := hs
            obtain ⟨r, w', G', h3, h4, h5, h6, h7⟩ := append_run (P := P) (ty := o.type) R hd hu hg (opd_rep hgl he hs') (opd_rep hgl he hx') h1 h2
            refine ⟨r, w', G', .inl ?_, h4, h5, h6, h7⟩
            rw [hres]
            simp only [builtin, List.map_toArray, List.map_cons, List.map_nil, Sem.run_bind, h3, Result.andThen_ok]
            rfl
          split at hc
          · simp only [Option.bind_eq_some_iff, Option.map_eq_some_iff] at hc
            obtain ⟨s', hs', x', hx', rfl⟩ := hc
            exact fin (.inr ⟨_, hdu⟩) s' x' hs' hx' rfl
          · simp only [Option.bind_eq_some_iff, Option.map_eq_some_iff] at hc
            obtain ⟨s', hs', x', hx', rfl⟩ := hc
            exact fin (.inl hdu) s' x' hs' hx' rfl
          · simp at hc
        · simp at hc
      · rename_i t x e1 e2
        have ets : ts = #[t] := by rw [← Array.toArray_toList (xs := ts), e1]
        have exs : args = #[x] := by rw [← Array.toArray_toList (xs := args), e2]
        subst ets; subst exs
        simp only [Option.bind_eq_some_iff] at hc
        obtain ⟨d, hd, hc⟩ := hc
        split at hc
        · simp only [Option.map_eq_some_iff] at hc
          obtain ⟨y, hy, rfl⟩ := hc
          simp only [step, Option.map_eq_some_iff, Prod.mk.injEq] at hs
          obtain ⟨n, h1, rfl, rfl⟩ := hs
          have h3 := cap_run (P := P) (w := w) (ts := #[]) (ty := o.type) hd (opd_rep hgl he hy) h1
          refine ⟨_, w, G, .inl ?_, Ext.refl G, R, RepV.int _ _ _, Below.refl _ _⟩
          rw [hres]
          simp only [builtin, List.map_toArray, List.map_cons, List.map_nil, Sem.run_bind, h3, Result.andThen_ok]
          rfl
        · simp at hc
      · rename_i t u s x e1 e2
        have ets : ts = #[t, u] := by rw [← Array.toArray_toList (xs := ts), e1]
        have exs : args = #[s, x] := by rw [← Array.toArray_toList (xs := args), e2]
        subst ets; subst exs
        simp only [Option.bind_eq_some_iff] at hc
        obtain ⟨d, hd, hc⟩ := hc
        split at hc
        · rename_i e
          simp only [Option.bind_eq_some_iff] at hc
          obtain ⟨sz, hg, du, hdu, hc⟩ := hc
          have fin : ∀ s' x', opd gl s = some s' → opd gl x = some x' → ao = .copy sz s' x' → OpOk P o a G h' w v := by
            rintro s' x' hs' hx' rfl
            simp only [step, Option.bind_eq_some_iff, Option.map_eq_some_iff, Prod.mk.injEq] at hs
            obtain ⟨new, h1, ⟨k, h2⟩, h3, rfl, rfl⟩ := hs
            obtain ⟨w', h4, h5, h6⟩ := copy_run (P := P) (u := u) (ty := o.type) R hd hg (opd_rep hgl he hs') (opd_rep hgl he hx') h1 h3
            refine ⟨goInt k, w', G, .inl ?_, Ext.refl G, h5, RepV.int _ _ _, h6⟩
            rw [hres]
            simp only [builtin, List.map_toArray, List.map_cons, List.map_nil, Sem.run_bind, h4, Result.andThen_ok]
            rfl
          split at hc
          · simp only [Option.bind_eq_some_iff, Option.map_eq_some_iff] at hc
            obtain ⟨s', hs', x', hx', rfl⟩ := hc
            exact fin s' x' hs' hx' rfl
          · simp only [Option.bind_eq_some_iff, Option.map_eq_some_iff] at hc
            obtain ⟨s', hs', x', hx', rfl⟩ := hc
            exact fin s' x' hs' hx' rfl
          · simp at hc
        · simp at hc
      · rename_i x e2
        have exs : args = #[x] := by rw [← Array.toArray_toList (xs := args), e2]
        subst exs
        simp only [Option.map_eq_some_iff] at hc
        obtain ⟨y, hy, rfl⟩ := hc
        simp only [step] at hs
        obtain ⟨h1, h2⟩ := some_pair hs
        simp only at h1 h2
        subst h2
        obtain ⟨r, h3, h4⟩ := sliceData_run (P := P) (ts := ts) (ty := o.type) R (opd_rep hgl he hy) h1
        refine ⟨r, w, G, .inl ?_, Ext.refl G, R, h4, Below.refl _ _⟩
        rw [hres]
        simp only [builtin, List.map_toArray, List.map_cons, List.map_nil, Sem.run_bind, h3, Result.andThen_ok]
        rfl
      · rename_i pt it x n e1 e2
        have ets : ts = #[pt, it] := by rw [← Array.toArray_toList (xs := ts), e1]
        have exs : args = #[x, n] := by rw [← Array.toArray_toList (xs := args), e2]
        subst ets; subst exs
        simp only [Option.bind_eq_some_iff] at hc
        obtain ⟨d, hd, hc⟩ := hc
        split at hc
        · split at hc
          · rename_i hcell
            simp only [Option.bind_eq_some_iff, Option.map_eq_some_iff] at hc
            obtain ⟨x', hx, n', hn, rfl⟩ := hc
            simp only [step] at hs
            split at hs
            · rename_i k ek
              split at hs
              · rename_i h0
                have hrn := opd_rep hgl he hn
                rw [ek] at hrn
                have hrn := hrn.sc_inv
                obtain ⟨r, w', h3, h4, h5, h6⟩ := strData_run (P := P) (it := it) (ty := o.type) R hd hcell (opd_rep hgl he hx) hs
                refine ⟨r, w', G, .inl ?_, Ext.refl G, h4, h5, h6⟩
                rw [hres]
                have hk : (Value.int .i64 (k.toNat : Int)) = .int .i64 k := by rw [Int.toNat_of_nonneg h0]
                rw [hk] at h3
                simp only [builtin, List.map_toArray, List.map_cons, List.map_nil, Sem.run_bind, hrn, h3, Result.andThen_ok]
                rfl
              · simp at hs
            · simp at hs
          · simp at hc
        · simp at hc
      · simp only [Option.map_eq_some_iff] at hc
        obtain ⟨ys, hy, rfl⟩ := hc
        exact ok_minmax (mx := true) hop hgl he R hy hs
      · simp only [Option.map_eq_some_iff] at hc
        obtain ⟨ys, hy, rfl⟩ := hc
        exact ok_minmax (mx := false) hop hgl he R hy hs
      · simp at hc
    · simp at hc

end
end Go.Am
