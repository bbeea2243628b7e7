/- Am: one operation, whole. -/
import Derived.Test.YtefbdhbfhgapeaaDoorAmOps9
namespace Go.Am
open Go.RowKit (Below)
section
variable {P : Program} {gl : Nat → Option (List V)} {G : Tie} {en : Env} {h h' : Heap} {a : Act} {w : World} {o : Oper} {base : Nat} {v : V}

/-- The machine's operation does what the abstract one does. -/
def OpOk (P : Program) (o : Oper) (a : Act) (G : Tie) (h' : Heap) (w : World) (v : V) : Prop :=
  ∃ r w' G', ((execOp a.eval o).run P w = .ok (.value r) w' ∨ ((execOp a.eval o).run P w = .ok .skip w' ∧ r = undef)) ∧ Ext G G' ∧ Rel G' h' w' ∧ RepV G' v r ∧ Below G.b0 w w'

theorem OpOk.quiet {s : Sem Value} {r : Value} (R : Rel G h w) (he : execOp a.eval o = (do pure (.value (← s)))) (hr : s.run P w = .ok r w) (hv : RepV G v r) : OpOk P o a G h w v := by
  refine ⟨r, w, G, .inl ?_, Ext.refl G, R, hv, Below.refl _ _⟩
  rw [he]
  simp only [Sem.run_bind, hr, Result.andThen_ok]
  rfl

theorem OpOk.value {s : Sem Value} {r : Value} {w' : World} {G' : Tie} (he : execOp a.eval o = (do pure (.value (← s)))) (hr : s.run P w = .ok r w') (x : Ext G G') (R : Rel G' h' w') (hv : RepV G' v r) (hb : Below G.b0 w w') : OpOk P o a G h' w v := by
  refine ⟨r, w', G', .inl ?_, x, R, hv, hb⟩
  rw [he]
  simp only [Sem.run_bind, hr, Result.andThen_ok]
  rfl

theorem zeroO_run {t : TypeId} {zs : List V} (h : zeroO P t = some zs) (w : World) : ∃ z, (zeroValue t).run P w = .ok z w ∧ scsOf z.cells.toList = some zs := by
  simp only [zeroO, Option.bind_eq_some_iff] at h
  obtain ⟨z, ⟨i, hi, hz⟩, hs⟩ := h
  exact ⟨z, by simp [zeroValue, typeInfo, hi, hz], hs⟩

theorem ok_move {x : Operand} (hop : o.op = .move x ∨ o.op = .assign x) (hgl : GlobOk G gl) (he : RepEnv G en a.tmps) (R : Rel G h w) {y : Opd} (hc : opd gl x = some y) : OpOk P o a G h w (y.get en) := by
  refine ⟨a.eval x, w, G, .inl ?_, Ext.refl G, R, opd_rep hgl he hc, Below.refl _ _⟩
  rcases hop with hop | hop <;> simp only [execOp, hop] <;> rfl

theorem ok_pick {c x y : Operand} {c' x' y' : Opd} {t : Bool} (hop : o.op = .pick c x y) (hgl : GlobOk G gl) (he : RepEnv G en a.tmps) (R : Rel G h w) (h1 : opd gl c = some c') (h2 : opd gl x = some x') (h3 : opd gl y = some y')
    (ht : c'.get en = .sc (.bool t)) : OpOk P o a G h w (if t then x'.get en else y'.get en) := by
  have hcv := opd_rep hgl he h1
  rw [ht] at hcv
  have hcv := hcv.sc_inv
  refine ⟨if t then a.eval x else a.eval y, w, G, .inl ?_, Ext.refl G, R, ?_, Below.refl _ _⟩
  · simp [execOp, hop, hcv, asBool]
  · cases t
    · exact opd_rep hgl he h3
    · exact opd_rep hgl he h2

theorem ok_alloc {t : TypeId} {zs : List V} (hop : o.op = .alloc t) (R : Rel G h w) (hz : zeroO P t = some zs) : OpOk P o a G (h ++ [.box t zs]) w (.ptr h.length 0) := by
  obtain ⟨z, hr, hs⟩ := zeroO_run hz w
  refine OpOk.value (s := Instr.alloc t true (.tuple #[])) (r := .pointer (some ⟨w.heap.size, 0, none⟩)) (w' := w.alloc (.cells z.cells t (0, 0))) (by simp only [execOp, hop]) ?_ (Ext.newBox G w.heap.size) (R.newBox t (scsOf_one hs).1 (scsOf_rep hs)) ?_ (below_alloc _ _ _ R.hb0)
  · simp [Instr.alloc, hr, newVar, newRow]
  · simp [RepV, Tie.newBox, R.n]

theorem ok_box {t : TypeId} {x : Operand} {x' : Opd} (hop : o.op = .box t x) (hgl : GlobOk G gl) (he : RepEnv G en a.tmps) (R : Rel G h w) (h1 : opd gl x = some x') (hone : (x'.get en).cells.all oneCell = true) :
    OpOk P o a G (h ++ [.box t (x'.get en).cells]) w (.ptr h.length 0) := by
  have hx := opd_rep hgl he h1
  have hu : x'.get en ≠ .undef := by
    intro e
    rw [e] at hone
    simp [V.cells, oneCell] at hone
  refine OpOk.value (s := Instr.box t (a.eval x)) (r := .pointer (some ⟨w.heap.size, 0, none⟩)) (w' := w.alloc (.cells (a.eval x).cells t (0, 0))) (by simp only [execOp, hop]) ?_ (Ext.newBox G w.heap.size) (R.newBox t hone (hx.cells hu)) ?_ (below_alloc _ _ _ R.hb0)
  · simp [Instr.box, newVar, newRow]
  · simp [RepV, Tie.newBox, R.n]

theorem arrElem_inv {t : TypeId} {sz : Nat} (h : arrElem P t = some sz) : ∃ n e, P.underlying t = some (.array n e) ∧ growElem P e = some sz := by
  unfold arrElem at h
  split at h
  · rename_i n e eq
    split at h
    · simp at h
    · exact ⟨n, e, eq, h⟩
  · simp at h

theorem ok_allocA {t : TypeId} {sz : Nat} {zs : List V} (hop : o.op = .alloc t) (R : Rel G h w) (hz : zeroO P t = some zs) (hs : step base en h (.allocA t sz zs) = some (v, h')) : OpOk P o a G h' w v := by
  simp only [step] at hs
  split at hs
  · rename_i hc
    obtain ⟨hpos, hmod, _⟩ := hc
    simp only [Option.some.injEq, Prod.mk.injEq] at hs
    obtain ⟨rfl, rfl⟩ := hs
    obtain ⟨z, hr, hs⟩ := zeroO_run hz w
    have hrep := scsOf_rep (G := G) hs
    have hlen := hrep.length
    simp only [Array.length_toList] at hlen
    have hdiv : zs.length / sz * sz = zs.length := Nat.div_mul_cancel (Nat.dvd_of_mod_eq_zero hmod)
    refine OpOk.value (s := Instr.alloc t true (.tuple #[])) (r := .pointer (some ⟨w.heap.size, 0, none⟩)) (w' := w.alloc (.cells z.cells t (0, 0))) (by simp only [execOp, hop]) ?_ (Ext.newRow G ⟨0, sz, w.heap.size, zs.length / sz⟩)
      (R.newRow t hpos (by rw [chunk_length]; exact Nat.le_refl _) (by rw [hdiv]; exact hlen) (chunk_blk hpos (scsOf_one hs).1 fun p c hc => by
        obtain ⟨r, h1, h2⟩ := hrep.get hc
        exact ⟨r, by rw [← Array.getElem?_toList]; exact h1, h2⟩)) ?_ (below_alloc _ _ _ R.hb0)
    · simp [Instr.alloc, hr, newVar, newRow]
    · simp [RepV, Tie.newRow, R.n]
  · simp at hs

theorem ok_boxA {t : TypeId} {sz : Nat} {x : Operand} {x' : Opd} (hop : o.op = .box t x) (hgl : GlobOk G gl) (he : RepEnv G en a.tmps) (R : Rel G h w) (h1 : opd gl x = some x') (hs : step base en h (.boxA t sz x') = some (v, h')) :
    OpOk P o a G h' w v := by
  simp only [step] at hs
  split at hs
  · rename_i hc
    obtain ⟨hpos, hmod, _, hone⟩ := hc
    simp only [Option.some.injEq, Prod.mk.injEq] at hs
    obtain ⟨rfl, rfl⟩ := hs
    have hx := opd_rep hgl he h1
    have hu : x'.get en ≠ .undef := by
      intro e
      rw [e] at hone
      simp [V.cells, oneCell] at hone
    have hrep := hx.cells hu
    have hlen := hrep.length
    simp only [Array.length_toList] at hlen
    have hdiv : (x'.get en).cells.length / sz * sz = (x'.get en).cells.length := Nat.div_mul_cancel (Nat.dvd_of_mod_eq_zero hmod)
    refine OpOk.value (s := Instr.box t (a.eval x)) (r := .pointer (some ⟨w.heap.size, 0, none⟩)) (w' := w.alloc (.cells (a.eval x).cells t (0, 0))) (by simp only [execOp, hop]) ?_ (Ext.newRow G ⟨0, sz, w.heap.size, (x'.get en).cells.length / sz⟩)
      (R.newRow t hpos (by rw [chunk_length]; exact Nat.le_refl _) (by rw [hdiv]; exact hlen) (chunk_blk hpos hone fun p c hc => by
        obtain ⟨r, h1, h2⟩ := hrep.get hc
        exact ⟨r, by rw [← Array.getElem?_toList]; exact h1, h2⟩)) ?_ (below_alloc _ _ _ R.hb0)
    · simp [Instr.box, newVar, newRow]
    · simp [RepV, Tie.newRow, R.n]
  · simp at hs

theorem ok_boxF {t : TypeId} {x : Operand} {x' : Opd} (hop : o.op = .box t x) (hgl : GlobOk G gl) (he : RepEnv G en a.tmps) (R : Rel G h w) (h1 : opd gl x = some x') (hs : step base en h (.boxF t x') = some (v, h')) :
    OpOk P o a G h' w v := by
  simp only [step] at hs
  split at hs
  · rename_i hg
    simp only [Option.some.injEq, Prod.mk.injEq] at hs
    obtain ⟨rfl, rfl⟩ := hs
    have hx := opd_rep hgl he h1
    have hu : x'.get en ≠ .undef := by
      intro e
      rw [e] at hg
      simp [V.cells, ground] at hg
    have hrep := hx.cells hu
    have X := Ext.newFz R (a.eval x).cells
    refine OpOk.value (s := Instr.box t (a.eval x)) (r := .pointer (some ⟨w.heap.size, 0, none⟩)) (w' := w.alloc (.cells (a.eval x).cells t (0, 0))) (by simp only [execOp, hop]) ?_ X
      (R.newFz (a.eval x).cells t (0, 0)) ?_ (below_alloc _ _ _ R.hb0)
    · simp [Instr.box, newVar, newRow]
    · simp only [RepV]
      refine ⟨w.heap.size, 0, rfl, hg, RepF.of_get fun j c hj => ?_⟩
      obtain ⟨r, h2, h3⟩ := hrep.get hj
      refine ⟨r, ?_, h3.ext X⟩
      simp only [Tie.newFz, if_true, Nat.zero_add]
      rw [← Array.getElem?_toList]
      exact h2
  · simp at hs

theorem fieldsPlaces_mapM : ∀ {fs : List Field} {pl : List (Nat × Nat)}, fieldsPlaces P fs = some pl → fs.mapM (fun f => (P.info? f.type).map fun i => (f.offset, i.size)) = some pl
  | [], pl, h => by simp [fieldsPlaces] at h; subst h; rfl
  | f :: fs, pl, h => by
    simp only [fieldsPlaces, sizeO, Option.bind_eq_some_iff, Option.map_eq_some_iff] at h
    obtain ⟨n, ⟨i, hi, rfl⟩, r, hr, rfl⟩ := h
    have := fieldsPlaces_mapM hr
    simp [List.mapM_cons, hi, this]

theorem buildParts_all (hgl : GlobOk G gl) (he : RepEnv G en a.tmps) {pl : List (Nat × Nat)} {place : Nat → Option (Nat × Nat)} (hpl : ∀ i p, pl[i]? = some p → place i = some p) : ∀ {ps : List (Nat × Operand)} {qs : List (Nat × Nat × Opd)},
    buildParts gl pl ps = some qs → All2 (fun p r => place r.1 = some (p.1, p.2.1) ∧ RepV G p.2.2 r.2) (getParts en qs) (ps.map fun p => (p.1, a.eval p.2))
  | [], qs, h => by simp [buildParts] at h; subst h; simp [getParts, All2]
  | (i, x) :: ps, qs, h => by
    simp only [buildParts, Option.bind_eq_some_iff, Option.map_eq_some_iff] at h
    obtain ⟨p, hp, y, hy, r, hr, rfl⟩ := h
    simp only [getParts, List.map_cons, All2]
    exact ⟨_, _, rfl, ⟨hpl _ _ hp, opd_rep hgl he hy⟩, buildParts_all hgl he hpl hr⟩

theorem slcParts_all (hgl : GlobOk G gl) (he : RepEnv G en a.tmps) : ∀ {ps : List (Nat × Operand)} {qs : List (Nat × Opd)},
    slcParts gl ps = some qs → All2 (fun p r => p.1 = r.1 ∧ RepV G p.2 r.2) (getParts2 en qs) (ps.map fun p => (p.1, a.eval p.2))
  | [], qs, h => by simp [slcParts] at h; subst h; simp [getParts2, All2]
  | (i, x) :: ps, qs, h => by
    simp only [slcParts, Option.bind_eq_some_iff, Option.map_eq_some_iff] at h
    obtain ⟨y, hy, r, hr, rfl⟩ := h
    simp only [getParts2, List.map_cons, All2]
    exact ⟨_, _, rfl, ⟨rfl, opd_rep hgl he hy⟩, slcParts_all hgl he hr⟩

theorem ok_build {t : TypeId} {ps : Array (Nat × Operand)} {zs cs : List V} {qs : List (Nat × Nat × Opd)} {d : TypeDesc} (hop : o.op = .build t ps) (hgl : GlobOk G gl) (he : RepEnv G en a.tmps) (R : Rel G h w) (hd : P.underlying t = some d) (hz : zeroO P t = some zs)
    (hq : (∃ fs pl, d = .struct fs ∧ fieldsPlaces P fs.toList = some pl ∧ buildParts gl pl ps.toList = some qs) ∨ (∃ n e s, d = .array n e ∧ sizeO P e = some s ∧ buildParts gl ((List.range n).map fun i => (i * s, s)) ps.toList = some qs))
    (hf : fillParts zs (getParts en qs) = some cs) : OpOk P o a G h w (.agg cs) := by
  simp only [zeroO, Option.bind_eq_some_iff] at hz
  obtain ⟨z, ⟨it, hit, hz⟩, hs⟩ := hz
  have key : ∃ cells, P.built t (ps.toList.map fun p => (p.1, a.eval p.2)) = some cells ∧ RepL G cs cells.toList := by
    rcases hq with ⟨fs, pl, rfl, hp, hb⟩ | ⟨n, e, s, rfl, hs', hb⟩
    · obtain ⟨cells, h1, h2⟩ := fillParts_run (G := G) (pl.toArray[·]?) (scsOf_rep hs) hf (buildParts_all hgl he (by simp) hb)
      exact ⟨cells, by simp only [Program.built, hit, hd, hz, fieldsPlaces_mapM hp]; exact h1, h2⟩
    · simp only [sizeO, Option.map_eq_some_iff] at hs'
      obtain ⟨ie, hie, rfl⟩ := hs'
      obtain ⟨cells, h1, h2⟩ := fillParts_run (G := G) (fun i => some (i * ie.size, ie.size)) (scsOf_rep hs) hf (buildParts_all hgl he (fun i p hp => by
        simp only [List.getElem?_map, Option.map_eq_some_iff] at hp
        obtain ⟨j, hj, rfl⟩ := hp
        rw [List.getElem?_range] at hj
        · injection hj with hj; rw [hj]
        · rcases Nat.lt_or_ge i n with hl | hl
          · exact hl
          · rw [List.getElem?_eq_none (by simpa using hl)] at hj
            simp at hj) hb)
      exact ⟨cells, by simp only [Program.built, hit, hd, hz, hie]; exact h1, h2⟩
  obtain ⟨cells, h1, h2⟩ := key
  refine OpOk.quiet (s := Instr.build t (ps.map fun (i, x) => (i, a.eval x))) (r := .agg cells) R (by simp only [execOp, hop]) (run_build w t _ cells ?_) ?_
  · rw [← h1]
    congr 1
    simp
  · simp only [RepV]
    exact ⟨_, rfl, h2⟩

end
end Go.Am
