/- Am: pointers seen as others; a string over a row. -/
import Derived.Test.YtefbdhbfhgapeaaDoorAmOps8
import Derived.Lib.Builder
import Derived.Lib.UnsafeStr
import Derived.LaidEql
namespace Go.Am
open Go.RowKit (Below)
section
variable {P : Program} {G : Tie} {h h' : Heap} {w : World}

theorem boxAt_inv {b : Nat} {t : TypeId} {cs : List V} (hb : boxAt h b = some (t, cs)) : h[b]? = some (.box t cs) := by
  unfold boxAt at hb
  split at hb
  · rename_i e
    simp only [Option.some.injEq, Prod.mk.injEq] at hb
    obtain ⟨rfl, rfl⟩ := hb
    exact e
  · simp at hb

theorem shape_of_heap {b : Nat} {rs : Array Value} {t : TypeId} {fr : Nat × Nat} (hw : w.heap[b]? = some (.cells rs t fr)) : w.shape? b = some (t, rs.size) := by
  simp [World.shape?, hw]

theorem uncast_run {src dst t : TypeId} {s : Nat} {x v : V} {r : Value} (R : Rel G h w) (hs : P.underlying src = some (.pointer t)) (hd : P.underlying dst = some .unsafePointer) (hz : sizeO P t = some s) (h0 : s ≠ 0)
    (hx : RepV G x r) (hv : uncastV h x = some v) : (convert src dst r).run P w = .ok r w ∧ RepV G v r := by
  obtain ⟨i, hi, rfl⟩ : ∃ i, P.info? t = some i ∧ i.size = s := by simpa [sizeO] using hz
  unfold uncastV at hv
  split at hv
  · injection hv with hv
    subst hv
    have := hx.sc_inv
    subst this
    refine ⟨?_, hx⟩
    simp [convert, run_underlying hs, run_underlying hd, Conv.unsafePointer]
  · simp only [Option.bind_eq_some_iff] at hv
    obtain ⟨⟨ty, cs⟩, hb, hv⟩ := hv
    split at hv
    · rename_i hlt
      injection hv with hv
      subst hv
      have hx' := hx
      simp only [RepV] at hx'
      obtain ⟨_, rfl⟩ := hx'
      obtain ⟨_, rs, hw, hl⟩ := R.box _ _ _ (boxAt_inv hb)
      have hlen := hl.length
      simp only [Array.length_toList] at hlen
      exact ⟨Lib.run_to_unsafe w _ hs hd hi h0 (shape_of_heap hw) (by simp only at hlt ⊢; omega), hx⟩
    · simp at hv
  · simp at hv

theorem cast_run {src dst u : TypeId} {s : Nat} {x v : V} {r : Value} (R : Rel G h w) (hs : P.underlying src = some .unsafePointer) (hd : P.underlying dst = some (.pointer u)) (hz : sizeO P u = some s)
    (hlies : liesAt P P.depth u (s / P.cellsOf u) 0 u 1 = true) (hx : RepV G x r) (hv : castV h u s x = some v) : (convert src dst r).run P w = .ok r w ∧ RepV G v r := by
  obtain ⟨i, hi, rfl⟩ : ∃ i, P.info? u = some i ∧ i.size = s := by simpa [sizeO] using hz
  unfold castV at hv
  split at hv
  · injection hv with hv
    subst hv
    have := hx.sc_inv
    subst this
    refine ⟨?_, hx⟩
    simp [convert, run_underlying hs, run_underlying hd, Conv.unsafePointer]
  · simp only [Option.bind_eq_some_iff] at hv
    obtain ⟨⟨ty, cs⟩, hb, hv⟩ := hv
    split at hv
    · rename_i hc
      simp only at hc
      obtain ⟨rfl, hlen⟩ := hc
      injection hv with hv
      subst hv
      have hx' := hx
      simp only [RepV] at hx'
      obtain ⟨_, rfl⟩ := hx'
      obtain ⟨_, rs, hw, hl⟩ := R.box _ _ _ (boxAt_inv hb)
      have hl2 := hl.length
      simp only [Array.length_toList] at hl2
      refine ⟨Lib.run_from_unsafe w _ hs hd hi (shape_of_heap hw) ?_, hx⟩
      simp only
      rw [hl2, hlen]
      exact hlies
    · simp at hv
  · simp at hv

theorem samePtr_run {op : BinOp} {t e : TypeId} {s : Nat} {neg : Bool} {x y : V} {b : Bool} {rx ry : Value} (R : Rel G h w) (hop : op = if neg then .neq else .eql) (ht : P.underlying t = some (.pointer e)) (hz : sizeO P e = some s) (h0 : s ≠ 0)
    (hx : RepV G x rx) (hy : RepV G y ry) (hv : samePtr h x y = some b) (ox oy : Operand) : (do eqGuard op t ox oy rx ry; binOp op t rx ry : Sem Value).run P w = .ok (.bool (if neg then !b else b)) w := by
  obtain ⟨i, hi, rfl⟩ : ∃ i, P.info? e = some i ∧ i.size = s := by simpa [sizeO] using hz
  have key : ∀ {p q : Option Addr} (c : Bool), rx = .pointer p → ry = .pointer q → (∀ d, (Op.equalIn (d + 1) t (.pointer p) (.pointer q)).run P w = .ok c w) → b = c → (do eqGuard op t ox oy rx ry; binOp op t rx ry : Sem Value).run P w = .ok (.bool (if neg then !b else b)) w := by
    rintro p q c rfl rfl h3 rfl
    have h4 : (Op.equal t (.pointer p) (.pointer q)).run P w = .ok b w := by
      simp only [Op.equal, Op.maxDepth]
      exact h3 9999
    have h5 : (eqGuard op t ox oy (.pointer p) (.pointer q)).run P w = .ok () w := by
      cases neg <;> simp only [Bool.false_eq_true, if_false, if_true] at hop <;> subst hop <;> simp [eqGuard]
    simp only [Sem.run_bind, h5, Result.andThen_ok]
    cases neg
    · simp only [Bool.false_eq_true, if_false] at hop ⊢
      subst hop
      simp only [binOp, Sem.run_bind, h4, Result.andThen_ok, Sem.run_pure]
    · simp only [if_true] at hop ⊢
      subst hop
      simp only [binOp, Sem.run_bind, h4, Result.andThen_ok, Sem.run_pure]
  unfold samePtr at hv
  split at hv
  · injection hv with hv
    exact key true hx.sc_inv hy.sc_inv (fun d => by simp [Op.equalIn, run_underlying ht]) hv.symm
  · injection hv with hv
    simp only [RepV] at hy
    obtain ⟨_, rfl⟩ := hy
    exact key false hx.sc_inv rfl (fun d => by simp [Op.equalIn, run_underlying ht]) hv.symm
  · injection hv with hv
    simp only [RepV] at hx
    obtain ⟨_, rfl⟩ := hx
    exact key false rfl hy.sc_inv (fun d => by simp [Op.equalIn, run_underlying ht]) hv.symm
  · rename_i b1 o1 b2 o2
    simp only [Option.bind_eq_some_iff, Option.map_eq_some_iff] at hv
    obtain ⟨⟨t1, cs1⟩, hb1, ⟨t2, cs2⟩, hb2, hv⟩ := hv
    simp only [RepV] at hx hy
    obtain ⟨_, rfl⟩ := hx
    obtain ⟨_, rfl⟩ := hy
    have e1 := boxAt_inv hb1
    have e2 := boxAt_inv hb2
    obtain ⟨_, rs1, hw1, _⟩ := R.box _ _ _ e1
    obtain ⟨_, rs2, hw2, _⟩ := R.box _ _ _ e2
    have hsame : (sameAddr ⟨G.bx b1, o1, none⟩ ⟨G.bx b2, o2, none⟩).run P w = .ok (b1 == b2 && o1 == o2) w := by
      by_cases he : (⟨G.bx b1, o1, none⟩ : Addr) = ⟨G.bx b2, o2, none⟩
      · rw [he, run_sameAddr_same]
        injection he with he1 he2
        have : b1 = b2 := R.inj b1 b2 (G.bx b1) (by unfold Tie.real; rw [e1]) (by unfold Tie.real; rw [e2, he1])
        simp [this, he2]
      · rw [run_sameAddr_other w he hw1 hw2]
        have : (b1 == b2 && o1 == o2) = false := by
          by_cases hbb : b1 = b2
          · subst hbb
            have : o1 ≠ o2 := fun e => he (by rw [e])
            simp [this]
          · simp [hbb]
        rw [this]
    refine key (b1 == b2 && o1 == o2) rfl rfl (fun d => ?_) hv.symm
    simp [Op.equalIn, run_underlying ht, sizeOf, typeInfo, hi, h0, hsame]
  · simp at hv

theorem sliceData_run {ts : Array TypeId} {ty : TypeId} {x v : V} {r : Value} (R : Rel G h w) (hx : RepV G x r) (hv : sliceDataV h x = some v) : ∃ rv, (Builtin.unsafeSliceData_ ts ty #[r]).run P w = .ok rv w ∧ RepV G v rv := by
  unfold sliceDataV at hv
  split at hv
  · injection hv with hv
    subst hv
    have := hx.sc_inv
    subst this
    exact ⟨.pointer none, Lib.run_unsafeSliceData_nil w ts ty 0 0, by simp [RepV, Value.oneCell']⟩
  · rename_i b e off len
    split at hv
    · rename_i z hr
      split at hv
      · rename_i hpos
        injection hv with hv
        subst hv
        obtain ⟨sz, rows⟩ := z
        obtain ⟨t, eq, _, L, rs, hL, hLe, hLs, hcp, hw, hsz, hB⟩ := R.rowAt hr
        simp only [RepV] at hx
        obtain ⟨hb, a, cap, rfl, hLx⟩ := hx
        obtain ⟨h1, h2⟩ := hLx L hL
        obtain ⟨h3, h4, h5⟩ := h2 hLe.symm
        refine ⟨.pointer (some a), Lib.run_unsafeSliceData_row w ts ty a len cap (by omega), ?_⟩
        simp only [RepV]
        refine ⟨hb, a, rfl, fun L' hL' => ?_⟩
        rw [hL] at hL'
        injection hL' with hL'
        subst hL'
        exact ⟨h1, fun _ => by rw [h5 (by omega), Nat.add_zero]⟩
      · simp at hv
    · simp at hv
  · simp at hv

theorem bytesIn_map : ∀ {rows : List (List V)} {l : List UInt8}, bytesIn rows = some l → ∃ ns : List Int, rows = ns.map (fun n => [V.sc (.int .u8 n)]) ∧ l = ns.map fun n => UInt8.ofNat n.toNat
  | [], l, h => by simp [bytesIn] at h; subst h; exact ⟨[], rfl, rfl⟩
  | r :: rows, l, h => by
    unfold bytesIn at h
    split at h
    · rename_i e; simp at e
    · rename_i n r' e
      simp only [List.cons.injEq] at e
      obtain ⟨rfl, rfl⟩ := e
      simp only [Option.map_eq_some_iff] at h
      obtain ⟨l', h1, rfl⟩ := h
      obtain ⟨ns, rfl, rfl⟩ := bytesIn_map h1
      exact ⟨n :: ns, rfl, rfl⟩
    · simp at h

theorem run_loadBytes_ints : ∀ (ns : List Int) (a : Addr) (acc : ByteArray), (∀ j n, ns[j]? = some n → w.cell? (a.add j) = some (.int .u8 n)) →
    (loadBytes a acc ns.length).run P w = .ok ⟨acc.data ++ (ns.map fun n => UInt8.ofNat n.toNat).toArray⟩ w
  | [], a, acc, _ => by simp [loadBytes]
  | x :: l, a, acc, h => by
    have h0 : w.cell? a = some (.int .u8 x) := by
      have := h 0 x rfl
      simpa [Addr.add] using this
    have ih := run_loadBytes_ints l (a.add 1) (acc.push x.toNat.toUInt8) (fun j y hy => by
      have := h (j + 1) y (by simpa using hy)
      have e : (a.add 1).add j = a.add (j + 1) := by
        unfold Addr.add
        by_cases hj : j = 0
        · subst hj; simp
        · simp [hj]; omega
      rw [e]; exact this)
    simp only [List.length_cons, loadBytes, Sem.run_bind, run_load, h0, Result.andThen]
    rw [ih]
    congr 1
    apply ByteArray.ext
    simp [ByteArray.push]

theorem run_unsafeString_ints (pt it ty e : TypeId) (hp : P.underlying pt = some (.pointer e)) (hc : P.cellsOf e = 1) (g cells : Nat) (hsh : w.shape? g = some (e, cells)) (ns : List Int) (h0 : ns.length ≠ 0) (hn : ns.length ≤ cells) (h63 : ns.length ≤ 9223372036854775807)
    (hcell : ∀ j x, ns[j]? = some x → w.cell? ((⟨g, 0, none⟩ : Addr).add j) = some (.int .u8 x)) :
    (Builtin.unsafeString_ #[pt, it] ty #[.pointer (some ⟨g, 0, none⟩), .int .i64 ns.length]).run P w = .ok (.string ⟨(ns.map fun n => UInt8.ofNat n.toNat).toArray⟩) (w.freeze ⟨g, 0, none⟩ ns.length) := by
  have hlb := run_loadBytes_ints (P := P) (w := w) ns ⟨g, 0, none⟩ .empty hcell
  have hlies := Lib.liesAt_bytes (P := P) hc (cells / P.cellsOf e) ns.length (by rw [hc]; simpa using hn)
  have h63' : ¬ (9223372036854775807 : Int) < (ns.length : Int) := by omega
  have hdef : Builtin.unsafeString_ #[pt, it] ty #[.pointer (some ⟨g, 0, none⟩), .int .i64 ns.length] =
      (do
        let n ← asInt (.int .i64 ns.length)
        if n < 0 then runtimePanic (.error "unsafe.String: len out of range")
        if n > IntKind.i64.max then unsupported (.unsafePointer "String: a length above the largest int")
        if n = 0 then pure (.string .empty)
        else if ← variablesAt ⟨g, 0, none⟩ (← elemOf pt) n.toNat then do
          let s ← loadBytes ⟨g, 0, none⟩ .empty n.toNat
          freeze ⟨g, 0, none⟩ n.toNat
          pure (.string s)
        else unsupported (.unsafePointer "String: not so many bytes at ptr")) := rfl
  rw [hdef]
  have hmax : IntKind.i64.max = 9223372036854775807 := rfl
  have hneg : ¬ (ns.length : Int) < 0 := by omega
  have hz : ¬ ns = [] := by intro e; rw [e] at h0; exact h0 rfl
  simp [asInt, asIntOf, hmax, h63', hneg, hz, variablesAt, hsh, elemOf, run_underlying hp, hlies, hlb]

theorem strData_run {pt it ty u : TypeId} {k : Nat} {x v : V} {r : Value} (R : Rel G h w) (hp : P.underlying pt = some (.pointer u)) (hc : P.cellsOf u = 1) (hx : RepV G x r) (hv : strDataV h u k x = some (v, h')) :
    ∃ rv w', (Builtin.unsafeString_ #[pt, it] ty #[r, .int .i64 k]).run P w = .ok rv w' ∧ Rel G h' w' ∧ RepV G v rv ∧ Below G.b0 w w' := by
  unfold strDataV at hv
  split at hv
  · split at hv
    · rename_i h0
      subst h0
      simp only [Option.some.injEq, Prod.mk.injEq] at hv
      obtain ⟨rfl, rfl⟩ := hv
      have := hx.sc_inv
      subst this
      exact ⟨_, w, Lib.run_unsafeString_none w pt it ty none, R, by simp [RepV, Value.oneCell'], Below.refl _ _⟩
    · simp at hv
  · rename_i b e
    split at hv
    · rename_i t sz e' rows eq
      split at hv
      · rename_i hcond
        obtain ⟨rfl, rfl, rfl, hk0, hkl, hlim⟩ := hcond
        simp only [Option.map_eq_some_iff, Prod.mk.injEq] at hv
        obtain ⟨l, hl, rfl, rfl⟩ := hv
        obtain ⟨_, L, rs, hL, hLe, hLs, hcp, hw, hsz, hB⟩ := R.row _ _ _ _ _ eq
        simp only [RepV] at hx
        obtain ⟨hb, a, rfl, hLx⟩ := hx
        have ha := (hLx L hL).2 hLe.symm
        simp only [Nat.zero_mul, Nat.zero_add] at ha
        subst ha
        obtain ⟨ns, hns, rfl⟩ := bytesIn_map hl
        have hlen : ns.length = k := by
          have := congrArg List.length hns
          simp at this
          omega
        have hcell : ∀ (j : Nat) (x : Int), ns[j]? = some x → rs[j]? = some (.int .u8 x) := by
          intro j x hj
          have hjl := (List.getElem?_eq_some_iff.1 hj).1
          have hrj : rows[j]? = some [V.sc (.int .u8 x)] := by
            have h1 : (rows.take k)[j]? = some [V.sc (.int .u8 x)] := by rw [hns]; simp [hj]
            rw [List.getElem?_take, if_pos (by omega)] at h1
            exact h1
          obtain ⟨_, _, h3⟩ := hB j _ hrj
          obtain ⟨v, h4, h5⟩ := h3 0 _ rfl
          have := h5.sc_inv
          subst this
          simpa using h4
        have hrun := run_unsafeString_ints (P := P) (w := w) pt it ty t hp hc L.blk rs.size (shape_of_heap hw) ns (by omega) (by rw [hsz, hlen]; omega) (by rw [hlen]; unfold lim at hlim; omega) (fun j x hj => by
          rw [add_none, Nat.zero_add]
          unfold World.cell?
          simp [hw, hcell j x hj])
        rw [hlen] at hrun
        have hreal : G.real h b = some L.blk := by unfold Tie.real; rw [eq]; simp [hL]
        have hlt : b < h.length := Rel.real_lt hreal
        have hfz : (w.freeze ⟨L.blk, 0, none⟩ k).heap.size = w.heap.size ∧ ∀ c, c ≠ L.blk → (w.freeze ⟨L.blk, 0, none⟩ k).heap[c]? = w.heap[c]? := by
          unfold World.freeze
          rw [if_neg (by omega)]
          refine ⟨by simp, fun c hc => ?_⟩
          simp only [Array.getElem?_modify]
          rw [if_neg (by simpa using Ne.symm hc)]
        refine ⟨_, _, hrun, ?_, by simp [RepV, Value.oneCell'], Lib.below_freeze (Below.refl _ _) (R.low b _ hreal).1 k⟩
        refine R.put (Ext.refl G) b L.blk (fun c hc => by rw [List.getElem?_set_ne (by omega)]) (by simp [R.n]) rfl (fun _ _ => rfl) (fun _ _ => rfl) ?_ (R.low b _ hreal).1 (R.low b _ hreal).2 (fun c hc e => hc (R.inj c b _ e hreal)) (by rw [hfz.1]; exact Nat.le_refl _) (fun c hc _ => hfz.2 c hc) ?_ ?_
        · intro k' hk'
          unfold Tie.real at hk'
          rw [List.getElem?_set_self hlt] at hk'
          simp at hk'
        · intro t' cs' e
          rw [List.getElem?_set_self hlt] at e
          simp at e
        · intro t' sz' e1 rows' e
          rw [List.getElem?_set_self hlt] at e
          simp at e
      · simp at hv
    · simp at hv
  · simp at hv

theorem cap_run {ts : Array TypeId} {t e ty : TypeId} {x : V} {r : Value} {n : Nat} (ht : P.underlying t = some (.slice e)) (hx : RepV G x r) (hv : capV x = some n) : (Builtin.cap_ #[t] ty #[r]).run P w = .ok (.int .i64 n) w := by
  have key : ∀ (b : Option Addr) (l : Nat), r = .slice b l n → (Builtin.cap_ #[t] ty #[r]).run P w = .ok (.int .i64 n) w := by
    rintro b l rfl
    simp [Builtin.cap_, run_underlying ht, goInt]
  unfold capV at hv
  split at hv
  · injection hv with hv
    subst hv
    exact key none 0 hx.sc_inv
  · split at hv
    · rename_i hf
      injection hv with hv
      subst hv
      simp only [RepV] at hx
      obtain ⟨a, cap, rfl, _, hex, _⟩ := hx
      exact key a _ (by rw [hex hf])
    · simp at hv
  · simp at hv

end
end Go.Am
