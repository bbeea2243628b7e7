/- Am: one operation, whole: the rest. -/
import Derived.Test.YtefbdhbfhgapeaaDoorAmRun
namespace Go.Am
open Go.RowKit (Below)
section
variable {P : Program} {gl : Nat → Option (List V)} {G : Tie} {en : Env} {h h' : Heap} {a : Act} {w : World} {o : Oper} {base : Nat} {v : V}

theorem ok_bslice {t e : TypeId} {n sz : Nat} {ps : Array (Nat × Operand)} {zs : List V} {qs : List (Nat × Opd)} (hop : o.op = .buildSlice t n ps) (hgl : GlobOk G gl) (he : RepEnv G en a.tmps) (R : Rel G h w)
    (ht : P.underlying t = some (.slice e)) (hg : growElem P e = some sz) (hz : zeroO P e = some zs) (hn : n * sz ≤ 2 ^ 24 ∧ zs.length = sz) (hq : slcParts gl ps.toList = some qs)
    {wr : Bool} (hs : step base en h (.bslice wr e sz zs n qs) = some (v, h')) : OpOk P o a G h' w v := by
  obtain ⟨i, z, hi, hz1, rfl, hpos, hby, hzs⟩ := growElem_inv hg
  simp only [step, Option.bind_eq_some_iff] at hs
  obtain ⟨rows, hf, hs⟩ := hs
  have hz' : scsOf z.cells.toList = some zs := by
    simp only [zeroO, hi, hz1, Option.bind_some] at hz
    exact hz
  obtain ⟨cells, h1, h2⟩ := fillRows_run (G := G) (n := n) (made_flat (n := n) hz' hzs) hf (slcParts_all hgl he hq)
  have hrl : rows.length * i.size = cells.size := by
    have := h2.1
    simpa using this.symm
  have hlen : rows.length = n := by
    have key : ∀ {ps : List (Nat × V)} {xs ys : List (List V)}, fillRows i.size xs ps = some ys → ys.length = xs.length := by
      intro ps
      induction ps with
      | nil => intro xs ys h; simp only [fillRows, Option.some.injEq] at h; rw [h]
      | cons p ps ih =>
        intro xs ys h
        obtain ⟨k, u⟩ := p
        unfold fillRows at h
        split at h
        · have := ih h; simpa using this
        · simp at h
    have := key hf
    simpa using this
  have hrun : (Instr.buildSlice t n (ps.map fun (i, x) => (i, a.eval x))).run P w = .ok (.slice (some ⟨w.heap.size, 0, none⟩) n n) (w.alloc (.cells cells e (0, 0))) := by
    have hps : (ps.map fun (i, x) => (i, a.eval x)).toList = ps.toList.map fun p => (p.1, a.eval p.2) := by simp
    have hnot : ¬ (2 ^ 24 < n * i.size) := by omega
    rw [← hps] at h1
    generalize (ps.map fun (i, x) => (i, a.eval x)) = parts at h1
    have hsize : (sizeOf e).run P w = .ok i.size w := by simp [sizeOf, typeInfo, hi]
    have hzv : (zeroValue e).run P w = .ok z w := by simp [zeroValue, typeInfo, hi, hz1]
    unfold madeCells at h1
    unfold Instr.buildSlice
    by_cases h0 : n * i.size = 0
    · have h1' : Instr.fill (fun j => some (j * i.size, i.size)) (Array.map (fun x => (#[] : Array Value)[x % (#[] : Array Value).size]!) (Array.range (n * i.size))) parts.toList = some cells := by
        have hm : ∀ f : Nat → Value, Array.map f (Array.range 0) = #[] := fun f => Array.eq_empty_of_size_eq_zero (by simp)
        rw [← h1, h0, hm, hm]
      simp only [Sem.run_bind, run_underlying ht w, Result.andThen_ok, hsize, gt_iff_lt, hnot, if_false, Sem.run_pure, if_pos h0, h1']
      rfl
    · simp only [Sem.run_bind, run_underlying ht w, Result.andThen_ok, hsize, gt_iff_lt, hnot, if_false, Sem.run_pure, if_neg h0, hzv, h1]
      rfl
  have hrows : ∀ r ∈ rows, r.length = i.size := fun r hr => by
    obtain ⟨k, hk⟩ := List.getElem?_of_mem hr
    exact (h2.2 k r hk).1
  have rowcase : (rows.all fun r => r.all oneCell) = true → some (V.hsl h.length 0 0 rows.length, h ++ [Obj.row e i.size 0 rows]) = some (v, h') → OpOk P o a G h' w v := by
    intro hone hs
    injection hs with hs
    simp only [Prod.mk.injEq] at hs
    obtain ⟨rfl, rfl⟩ := hs
    have hB : RepBlk G i.size cells rows := by
      have := h2.blk (rest := []) (fun r hr => (List.all_eq_true.1 hone) r hr)
      rwa [List.append_nil, Array.toArray_toList] at this
    refine OpOk.value (by simp only [execOp, hop]) hrun (Ext.newRow G ⟨0, i.size, w.heap.size, n⟩) (R.newRow e hpos (by omega) (by rw [← hrl, hlen]) hB) ?_ (below_alloc _ _ _ R.hb0)
    simp only [RepV]
    refine ⟨by simp [Tie.newRow, R.n], _, _, by rw [hlen], fun L hL => ?_⟩
    simp only [Tie.newRow, R.n, if_true, Option.some.injEq] at hL
    subst hL
    exact ⟨Nat.le_refl _, fun _ => ⟨by omega, by simp, fun _ => by simp⟩⟩
  split at hs
  · split at hs
    · rename_i hone
      exact rowcase hone hs
    · simp at hs
  split at hs
  · rename_i hgr
    injection hs with hs
    simp only [Prod.mk.injEq] at hs
    obtain ⟨rfl, rfl⟩ := hs
    obtain ⟨hR, hV⟩ := R.newSlc (ex := .lit) (rest := []) (cap := n) h2 hgr (by omega) (by omega) e (0, 0)
    rw [List.append_nil, Array.toArray_toList] at hR hV
    rw [hlen] at hV
    exact OpOk.value (by simp only [execOp, hop]) hrun (Ext.newFz R _) hR hV (below_alloc _ _ _ R.hb0)
  · split at hs
    · rename_i hone
      exact rowcase hone hs
    · simp at hs

theorem ok_makeSlice {t e : TypeId} {sz : Nat} {l c : Operand} {l' c' : Opd} {zs : List V} (hop : o.op = .makeSlice t l c) (hgl : GlobOk G gl) (he : RepEnv G en a.tmps) (R : Rel G h w)
    (ht : P.underlying t = some (.slice e)) (hg : growElem P e = some sz) (hz : zeroO P e = some zs) (hl : opd gl l = some l') (hc : opd gl c = some c')
    (hs : step base en h (.makeSlice e sz zs l' c') = some (v, h')) : OpOk P o a G h' w v := by
  obtain ⟨i, z, hi, hz1, rfl, hpos, hby, hzs⟩ := growElem_inv hg
  have hz' : scsOf z.cells.toList = some zs := by
    simp only [zeroO, hi, hz1, Option.bind_some] at hz
    exact hz
  simp only [step] at hs
  split at hs
  · rename_i n m hn hm
    split at hs
    · rename_i hcond
      injection hs with hs
      simp only [Prod.mk.injEq] at hs
      obtain ⟨rfl, rfl⟩ := hs
      obtain ⟨kl, il, e1, hl0, rfl⟩ := asNat_run (opd_rep hgl he hl) hn
      obtain ⟨kc, ic, e2, hc0, rfl⟩ := asNat_run (opd_rep hgl he hc) hm
      have hlim : ic.toNat ≤ 2 ^ 36 := hcond.2
      have hb : (i.bytes : Int) * ic ≤ 281474976710656 := by
        have h1 : (i.bytes : Int) * ic ≤ 1024 * ic := Int.mul_le_mul_of_nonneg_right (by omega) hc0
        omega
      have hrun := run_make (P := P) w t e i z ht hi hz1 kl kc il ic hl0 (by omega) hb (by omega)
      rw [← e1, ← e2] at hrun
      have hfl := made_flat (G := G) (n := ic.toNat) hz' hzs
      have hone := (scsOf_one hz').1
      have hB : RepBlk G i.size (madeCells z.cells (ic.toNat * i.size)) (List.replicate il.toNat zs) := by
        intro k cs hk
        rw [List.getElem?_replicate] at hk
        split at hk
        · rename_i hlt
          injection hk with hk
          subst hk
          obtain ⟨h1, h2⟩ := hfl.2 k zs (by rw [List.getElem?_replicate, if_pos (by omega)])
          exact ⟨h1, hone, fun j c hj => by obtain ⟨u, h3, h4⟩ := h2 j c hj; rw [Array.getElem?_toList] at h3; exact ⟨u, h3, h4⟩⟩
        · simp at hk
      refine OpOk.value (by simp only [execOp, hop]) hrun (Ext.newRow G ⟨0, i.size, w.heap.size, ic.toNat⟩) (R.newRow e hpos (by simpa using hcond.1) (size_madeCells _ _) hB) ?_ (below_alloc _ _ _ R.hb0)
      simp only [RepV]
      refine ⟨by simp [Tie.newRow, R.n], _, _, rfl, fun L hL => ?_⟩
      simp only [Tie.newRow, R.n, if_true, Option.some.injEq] at hL
      subst hL
      exact ⟨Nat.le_refl _, fun _ => ⟨hcond.1, by simp, fun _ => by simp⟩⟩
    · simp at hs
  · simp at hs

theorem ok_load {t : TypeId} {n : Option Nat} {x : Operand} {x' : Opd} (hop : o.op = .load t x) (hgl : GlobOk G gl) (he : RepEnv G en a.tmps) (R : Rel G h w) (hn : shapeO P t = some n) (hx : opd gl x = some x')
    (hv : loadV h n (x'.get en) = some v) : OpOk P o a G h w v := by
  obtain ⟨rx, h1, h2⟩ := load_run R hn (opd_rep hgl he hx) hv
  exact OpOk.quiet R (by simp only [execOp, hop]) h1 h2

theorem ok_store {t : TypeId} {n : Nat} {x y : Operand} {x' y' : Opd} (hop : o.op = .store t x y) (hgl : GlobOk G gl) (he : RepEnv G en a.tmps) (R : Rel G h w) (hn : sizeO P t = some n) (hx : opd gl x = some x') (hy : opd gl y = some y')
    (hv : storeV base h n (x'.get en) (y'.get en) = some h') : OpOk P o a G h' w .undef := by
  obtain ⟨w', h1, h2, hb⟩ := store_run R hn (opd_rep hgl he hx) (opd_rep hgl he hy) hv
  refine ⟨undef, w', G, .inr ⟨?_, rfl⟩, Ext.refl G, h2, by simp [RepV], hb⟩
  simp only [execOp, hop, Sem.run_bind, h1, Result.andThen_ok]
  rfl

theorem foldl_push : ∀ (ns : List Int) (s : ByteArray), ns.foldl (fun r n => r.push (UInt8.ofNat n.toNat)) s = ⟨s.data ++ (ns.map fun n => UInt8.ofNat n.toNat).toArray⟩
  | [], s => by simp
  | n :: ns, s => by
    rw [List.foldl_cons, foldl_push ns]
    simp [ByteArray.push]

theorem ok_strOf {src dst e : TypeId} {x : Operand} {x' : Opd} {rows : List (List V)} {l : List UInt8} (hop : o.op = .convert src dst x) (hgl : GlobOk G gl) (he : RepEnv G en a.tmps) (R : Rel G h w) (hsrc : P.underlying src = some (.slice e)) (hdst : P.underlying dst = some .string)
    (hel : P.underlying e = some (.int .u8)) (hx : opd gl x = some x') (h1 : elems 1 h (x'.get en) = some rows) (h2 : bytesIn rows = some l) : OpOk P o a G h w (.str ⟨l.toArray⟩) := by
  obtain ⟨aa, cap, rs, hr, _, hfl, hc⟩ := elems_run R (opd_rep hgl he hx) h1
  obtain ⟨ns, rfl, rfl⟩ := bytesIn_map h2
  have hrs : rs = ns.map (Value.int .u8) := by
    apply List.ext_getElem?
    intro k
    by_cases hk : k < ns.length
    · obtain ⟨_, h4⟩ := hfl.2 k [V.sc (.int .u8 ns[k])] (by simp [hk])
      obtain ⟨u, h5, h6⟩ := h4 0 _ rfl
      have := h6.sc_inv
      subst this
      simp at h5
      rw [h5]
      simp [hk]
    · have := hfl.1
      simp at this
      rw [List.getElem?_eq_none (by omega), List.getElem?_eq_none (by simp; omega)]
  subst hrs
  refine OpOk.quiet (s := convert src dst (a.eval x)) (r := .string ⟨(ns.map fun n => UInt8.ofNat n.toNat).toArray⟩) R (by simp only [execOp, hop]) ?_ (RepV.str _ _)
  rw [hr, run_convert_bytes_string w src dst e aa _ cap hsrc hel hdst]
  by_cases hne : ns = []
  · subst hne
    cases aa with
    | none => rfl
    | some b =>
      have := run_bytesToString (P := P) w b 0 cap [] (by simp [loadCells, loadCellsFrom])
      exact this
  · obtain ⟨b, oo, rfl, hcell⟩ := hc (by simpa using hne)
    have hload := run_loadCells_list (P := P) w ⟨b, oo, none⟩ (ns.map (Value.int .u8)) (fun j u hj => by rw [add_none]; exact hcell j u hj)
    have := run_bytesToString (P := P) w ⟨b, oo, none⟩ ns.length cap ns (by simpa using hload)
    rw [foldl_push] at this
    simp only [List.length_map]
    rw [this]
    simp

theorem ok_bytesOf {src dst e : TypeId} {x : Operand} {x' : Opd} {s : ByteArray} (hop : o.op = .convert src dst x) (hgl : GlobOk G gl) (he : RepEnv G en a.tmps) (R : Rel G h w) (hsrc : P.underlying src = some .string) (hdst : P.underlying dst = some (.slice e))
    (hel : P.underlying e = some (.int .u8)) (hx : opd gl x = some x') (h1 : x'.get en = .sc (.string s)) : OpOk P o a G h w (.slc .any 1 (bytesOut s)) := by
  have hxv := opd_rep hgl he hx
  rw [h1] at hxv
  have hxv := hxv.sc_inv
  have hrun := run_bytes_of_string (P := P) w src dst e s hsrc hdst hel
  have hlen : (bytesOut s).length = s.size := by
    simp [bytesOut]
  have hg : ((bytesOut s).all fun r => r.all ground) = true := by
    rw [List.all_eq_true]
    intro r hr
    simp only [bytesOut, List.mem_map] at hr
    obtain ⟨c, _, rfl⟩ := hr
    rfl
  obtain ⟨hR, hV⟩ := R.drew.newSlc (ex := .any) (rest := List.replicate (grownCap w s.size 0 e - s.size) (.int .u8 0)) (cap := grownCap w s.size 0 e) (bytesOut_flat G s) hg (by rw [hlen]; exact grownCap_ge _ _ _ _) (by simp [Cp.isFull]) e
    ((bytesRow s (grownCap w s.size 0 e)).size, (bytesRow s (grownCap w s.size 0 e)).size + 1)
  have hrow : (s.data.toList.map (fun (c : UInt8) => Value.int .u8 (c.toNat : Int)) ++ List.replicate (grownCap w s.size 0 e - s.size) (Value.int .u8 0)).toArray = bytesRow s (grownCap w s.size 0 e) := by
    unfold bytesRow
    apply Array.ext'
    simp
  rw [hrow] at hR hV
  rw [hlen] at hV
  exact OpOk.value (by simp only [execOp, hop, hxv]) hrun (Ext.newFz R.drew _) hR hV (below_drew_alloc _ _ _ R.hb0)

theorem sliceStr_run {t : TypeId} {s : ByteArray} {l e : Nat} {low high : Option Value} (ht : P.underlying t = some .string) (hl : OB 0 low l) (hh : OB s.size high e) (h1 : l ≤ e) (h2 : e ≤ s.size) :
    (Instr.sliceAt t (.string s) low high none).run P w = .ok (.string (s.extract l e)) w := by
  simp [Instr.sliceAt, Instr.slice, run_underlying ht w, bounds_run (P := P) (w := w) (b := false) hl hh (.inl ⟨rfl, rfl⟩ : OB s.size none s.size) (by simp) h1 h2 (Nat.le_refl _)]

theorem boundO_OB (hgl : GlobOk G gl) (he : RepEnv G en a.tmps) {d n : Nat} {x : Option Operand} {y : Option Opd} (h : opdO gl x = some y) (hb : boundO en d y = some n) : OB d (x.map a.eval) n := by
  cases x with
  | none =>
    simp only [opdO, Option.some.injEq] at h
    subst h
    simp only [boundO, Option.some.injEq] at hb
    exact .inl ⟨rfl, hb.symm⟩
  | some x =>
    simp only [opdO, Option.map_eq_some_iff] at h
    obtain ⟨y, hy, rfl⟩ := h
    simp only [boundO] at hb
    obtain ⟨k, i, h1, h2, h3⟩ := asNat_run (opd_rep hgl he hy) hb
    exact .inr ⟨k, i, by simp [h1], h2, h3⟩

end
end Go.Am
