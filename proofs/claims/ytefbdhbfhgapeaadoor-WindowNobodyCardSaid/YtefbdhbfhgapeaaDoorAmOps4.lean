/- Am: '==' of structs, whole; fields; indexes; pieces of slices and strings. -/
import Derived.Test.YtefbdhbfhgapeaaDoorAmOps3
namespace Go.Am
section
variable {P : Program} {G : Tie} {w : World}

theorem eqGuardType_false : ∀ (k d : Nat) {t : TypeId} {ls : List (Nat × LK)}, k ≤ d → leavesOf P k t = some ls → P.eqGuardType d t = false
  | 0, _, _, _, _, h => by simp [leavesOf] at h
  | k + 1, d, t, ls, hd, h => by
    obtain ⟨d, rfl⟩ : ∃ m, d = m + 1 := ⟨d - 1, by omega⟩
    unfold leavesOf at h
    split at h
    · rename_i hu; simp [Program.eqGuardType, hu]
    · rename_i hu; simp [Program.eqGuardType, hu]
    · rename_i hu; simp [Program.eqGuardType, hu]
    · rename_i fs hu
      split at h
      · simp at h
      · simp only [Program.eqGuardType, hu]
        rw [← Array.any_toList]
        clear hu
        generalize fs.toList = fl at h
        induction fl generalizing ls with
        | nil => rfl
        | cons f fl ih =>
          unfold leavesFs at h
          simp only [List.any_cons, Bool.or_eq_false_iff]
          split at h
          · rename_i hn
            exact ⟨by simp [hn], ih _ h⟩
          · simp only [Option.bind_eq_some_iff] at h
            obtain ⟨l, hl, n, hn, h⟩ := h
            split at h
            · simp only [Option.map_eq_some_iff] at h
              obtain ⟨l2, hl2, _⟩ := h
              refine ⟨?_, ih _ hl2⟩
              rw [eqGuardType_false k d (by omega) hl]
              simp
            · simp at h
    · simp at h

theorem eqAgg_run {t : TypeId} {fs : Array Field} {ls : List (Nat × LK)} {xs ys : List V} {rx ry : Value} {res neg : Bool} {ox oy : Operand} (ht : P.underlying t = some (.struct fs)) (hl : leavesOf P 8 t = some ls)
    (hx : RepV G (.agg xs) rx) (hy : RepV G (.agg ys) ry) (h : eqLeaves xs ys ls = some res) :
    (do eqGuard (if neg then .neq else .eql) t ox oy rx ry; binOp (if neg then .neq else .eql) t rx ry : Sem Value).run P w = .ok (.bool (if neg then !res else res)) w := by
  simp only [RepV] at hx hy
  obtain ⟨rxs, rfl, hx⟩ := hx
  obtain ⟨rys, rfl, hy⟩ := hy
  have hg := run_eqGuard_agg (P := P) w (if neg then .neq else .eql) t ox oy rxs rys (eqGuardType_false 8 P.depth (by unfold Program.depth Made.depth; omega) hl)
  have hst : P.stoodInHeld t = false := by
    unfold leavesOf at hl
    rw [ht] at hl
    simp only at hl
    split at hl
    · simp at hl
    · rename_i h; simpa using h
  have hfo : P.fieldsOf t = fs := by unfold Program.fieldsOf; rw [ht]
  have hE : (Op.equalIn 10000 t (.agg rxs) (.agg rys)).run P w = .ok res w := by
    rw [run_equalIn_struct w 9999 t _ _ (by rw [hfo]; exact ht) hst, hfo]
    unfold leavesOf at hl
    rw [ht] at hl
    simp only [hst, Bool.false_eq_true, if_false] at hl
    clear hfo hst hg ht
    generalize fs.toList = fl at hl
    induction fl generalizing ls res with
    | nil =>
      simp only [leavesFs, Option.some.injEq] at hl
      subst hl
      simp only [eqLeaves, Option.some.injEq] at h
      subst h
      simp [Op.eqFields]
    | cons f fl ih =>
      unfold leavesFs at hl
      unfold Op.eqFields
      split at hl
      · rename_i hname
        rw [if_neg (by simpa using hname)]
        exact ih h hl
      · rename_i hname
        rw [if_pos hname]
        simp only [Option.bind_eq_some_iff] at hl
        obtain ⟨l, hl1, n', hn', hl⟩ := hl
        split at hl
        · rename_i hal
          simp only [Option.map_eq_some_iff] at hl
          obtain ⟨l2, hl2, rfl⟩ := hl
          rw [eqLeaves_append] at h
          simp only [Option.bind_eq_some_iff, Option.map_eq_some_iff] at h
          obtain ⟨q1, hq1, q2, hq2, rfl⟩ := h
          obtain ⟨a, b, ha, hb, hab⟩ := eq_run w 7 9999 (by omega) hl1 hn' hal hx hy hq1
          simp only [Sem.run_bind, ha, hb, hab, Result.andThen_ok, Sem.run_ite]
          cases q1
          · simp
          · simpa using ih hq2 hl2
        · simp at hl
  simp only [Sem.run_bind, hg, Result.andThen_ok]
  cases neg
  · simp only [Bool.false_eq_true, if_false]
    rw [run_eql_struct, hE]
    rfl
  · simp only [if_true]
    rw [run_neq_struct, hE]
    rfl

theorem fieldAddr_run {t : TypeId} {fs : Array Field} {f : Field} {i s : Nat} {x v : V} {rx : Value} (ht : P.underlying t = some (.struct fs)) (hf : fs[i]? = some f) (hs : sizeO P f.type = some s) (hpos : 0 < s)
    (hx : RepV G x rx) (h : moveV f.offset x = some v) :
    ∃ r, (Instr.fieldAt t rx i).run P w = .ok r w ∧ RepV G v r := by
  have hsz : (sizeOf f.type).run P w = .ok s w := by
    simp only [sizeO, Option.map_eq_some_iff] at hs
    obtain ⟨i, hi, hm⟩ := hs
    simp [sizeOf, typeInfo, hi, hm]
  have key0 : ∀ a : Addr, (Instr.fieldAt t (.pointer (some a)) i).run P w = .ok (.pointer (some (a.add f.offset))) w := by
    intro a
    simp [Instr.fieldAt, run_underlying ht w, hf, Instr.sureAddr, fieldPlace, hsz, show s ≠ 0 by omega]
  have key : ∀ b o, (Instr.fieldAt t (.pointer (some ⟨b, o, none⟩)) i).run P w = .ok (.pointer (some ⟨b, o + f.offset, none⟩)) w := by
    intro b o
    rw [key0, add_none]
  cases x <;> simp only [moveV, reduceCtorEq] at h
  · injection h with h; subst h
    simp only [RepV] at hx
    obtain ⟨hb, rfl⟩ := hx
    exact ⟨_, key _ _, by simp only [RepV]; exact ⟨hb, trivial⟩⟩
  · injection h with h; subst h
    simp only [RepV] at hx
    obtain ⟨hb, a, rfl, ha⟩ := hx
    refine ⟨_, key0 a, ?_⟩
    simp only [RepV]
    refine ⟨hb, _, rfl, fun L hL => ⟨(ha L hL).1, fun he => ?_⟩⟩
    rw [(ha L hL).2 he, add_none, Nat.add_assoc]
  · injection h with h; subst h
    simp only [RepV] at hx
    obtain ⟨b, o, rfl, hg, hF⟩ := hx
    refine ⟨_, key _ _, ?_⟩
    simp only [RepV]
    exact ⟨b, o, by rw [Nat.add_assoc], hg, hF⟩

theorem sizeO_run {t : TypeId} {s : Nat} (hs : sizeO P t = some s) (w : World) : (sizeOf t).run P w = .ok s w := by
  simp only [sizeO, Option.map_eq_some_iff] at hs
  obtain ⟨i, hi, hm⟩ := hs
  simp [sizeOf, typeInfo, hi, hm]

theorem field_run {t : TypeId} {fs : Array Field} {f : Field} {i : Nat} {n : Option Nat} {cs : List V} {v : V} {rx : Value} (ht : P.underlying t = some (.struct fs)) (hf : fs[i]? = some f) (hn : shapeO P f.type = some n)
    (hx : RepV G (.agg cs) rx) (h : cutCells n cs f.offset = some v) : ∃ r, (Instr.field t rx i).run P w = .ok r w ∧ RepV G v r := by
  simp only [RepV] at hx
  obtain ⟨rs, rfl, hx⟩ := hx
  obtain ⟨r, h1, h2⟩ := part_run (P := P) (w := w) hn hx h
  exact ⟨r, by simp [Instr.field, run_underlying ht w, hf, asAgg, h1], h2⟩

theorem idxArr_run {t e : TypeId} {m : Nat} {n : Option Nat} {s : Nat} {cs : List V} {v x : V} {rx ri : Value} {k : Nat} (ht : P.underlying t = some (.array m e)) (hn : shapeO P e = some n) (hs : sizeO P e = some s)
    (hx : RepV G (.agg cs) rx) (hi : RepV G x ri) (hk : asNat? x = some k) (hlt : k < m) (h : cutCells n cs (k * s) = some v) : ∃ r, (Instr.index t rx ri).run P w = .ok r w ∧ RepV G v r := by
  obtain ⟨kk, i, rfl, h0, rfl⟩ := asNat_run hi hk
  simp only [RepV] at hx
  obtain ⟨rs, rfl, hx⟩ := hx
  obtain ⟨r, h1, h2⟩ := part_run (P := P) (w := w) hn hx h
  refine ⟨r, ?_, h2⟩
  have : 0 ≤ i ∧ i < (m : Int) := ⟨h0, by omega⟩
  simp [Instr.index, asIntOf, run_underlying ht w, this, sizeO_run hs w, h1]

theorem idxStr_run {t : TypeId} {s : ByteArray} {x : V} {rx ri : Value} {k : Nat} {c : UInt8} (ht : P.underlying t = some .string) (hx : RepV G (.sc (.string s)) rx) (hi : RepV G x ri) (hk : asNat? x = some k) (h : s[k]? = some c) :
    (Instr.index t rx ri).run P w = .ok (.int .u8 c.toNat) w := by
  obtain ⟨kk, i, rfl, h0, rfl⟩ := asNat_run hi hk
  obtain rfl := hx.sc_inv
  simp [Instr.index, asIntOf, run_underlying ht w, h0, h]

theorem indexA_run {t e : TypeId} {m s k : Nat} {x v y : V} {rx ri : Value} (ht : P.underlying t = some (.array m e)) (hs : sizeO P e = some s) (hx : RepV G x rx) (hi : RepV G y ri) (hk : asNat? y = some k) (hlt : k < m)
    (h : moveV (k * s) x = some v) :
    ∃ r, (Instr.indexAt t rx ri).run P w = .ok r w ∧ RepV G v r := by
  obtain ⟨kk, i, rfl, h0, rfl⟩ := asNat_run hi hk
  have hlt' : 0 ≤ i ∧ i < (m : Int) := ⟨h0, by omega⟩
  have key0 : ∀ a : Addr, (Instr.indexAt t (.pointer (some a)) (.int kk i)).run P w = .ok (.pointer (some (a.add (i.toNat * s)))) w := by
    intro a
    simp [Instr.indexAt, asIntOf, run_underlying ht w, Instr.sureAddr, hlt', sizeO_run hs w]
  cases x <;> simp only [moveV, reduceCtorEq] at h
  · injection h with h; subst h
    simp only [RepV] at hx
    obtain ⟨hb, rfl⟩ := hx
    exact ⟨_, key0 _, by simp only [RepV, add_none]; exact ⟨hb, trivial⟩⟩
  · injection h with h; subst h
    simp only [RepV] at hx
    obtain ⟨hb, a, rfl, ha⟩ := hx
    refine ⟨_, key0 a, ?_⟩
    simp only [RepV]
    refine ⟨hb, _, rfl, fun L hL => ⟨(ha L hL).1, fun he => ?_⟩⟩
    rw [(ha L hL).2 he, add_none, Nat.add_assoc]
  · injection h with h; subst h
    simp only [RepV] at hx
    obtain ⟨b, o, rfl, hg, hF⟩ := hx
    refine ⟨_, key0 _, ?_⟩
    simp only [RepV, add_none]
    exact ⟨b, o, by rw [Nat.add_assoc], hg, hF⟩

theorem indexS_run {h : Heap} (R : Rel G h w) {t e : TypeId} {s k : Nat} {x v y : V} {rx ri : Value} (ht : P.underlying t = some (.slice e)) (hs : sizeO P e = some s) (hx : RepV G x rx) (hi : RepV G y ri) (hk : asNat? y = some k)
    (hv : indexV h s k x = some v) :
    ∃ r, (Instr.indexAt t rx ri).run P w = .ok r w ∧ RepV G v r := by
  obtain ⟨kk, i, rfl, h0, rfl⟩ := asNat_run hi hk
  have key0 : ∀ (a : Addr) (len cap : Nat), i.toNat < len → (Instr.indexAt t (.slice (some a) len cap) (.int kk i)).run P w = .ok (.pointer (some (a.add (i.toNat * s)))) w := by
    intro a len cap hl
    have hlt' : 0 ≤ i ∧ i < (len : Int) := ⟨h0, by omega⟩
    simp [Instr.indexAt, asIntOf, run_underlying ht w, hlt', sizeO_run hs w]
  cases x <;> simp only [indexV, reduceCtorEq] at hv
  · split at hv
    · rename_i hz
      subst hz
      simp only [Option.map_eq_some_iff] at hv
      obtain ⟨cs, hcs, rfl⟩ := hv
      simp only [RepV] at hx
      obtain ⟨a, cap, rfl, hl, he, hg, b, o, ha, _, hR⟩ := hx
      have hlt := (List.getElem?_eq_some_iff.1 hcs).1
      have hne : _ ≠ [] := List.ne_nil_of_length_pos (Nat.lt_of_le_of_lt (Nat.zero_le _) hlt)
      rw [ha hne]
      refine ⟨_, key0 _ _ _ hlt, ?_⟩
      obtain ⟨_, hF⟩ := hR.get hcs
      simp only [RepV, add_none]
      refine ⟨_, _, rfl, ?_, hF⟩
      rw [List.all_eq_true] at hg
      exact hg cs (List.mem_of_getElem? hcs)
    · simp at hv
  · split at hv
    · rename_i z rs hr
      split at hv
      · rename_i hc
        obtain ⟨rfl, hkl, hol⟩ := hc
        injection hv with hv; subst hv
        simp only [RepV] at hx
        obtain ⟨hb, a, cap, rfl, hL⟩ := hx
        refine ⟨_, key0 _ _ _ hkl, ?_⟩
        simp only [RepV]
        refine ⟨hb, _, rfl, fun L hL' => ⟨(hL L hL').1, fun he => ?_⟩⟩
        obtain ⟨_, _, _, L2, _, hL2, _, hLs, _⟩ := R.rowAt hr
        rw [hL'] at hL2
        injection hL2 with hL2
        subst hL2
        have h3 := (hL L hL').2 he
        rw [h3.2.2 (by omega), add_none, hLs, Nat.add_mul]
        rfl
      · simp at hv
    · simp at hv

theorem nilCheck_run {h : Heap} {v : V} {h' : Heap} {ρ : Operand → Value} {o : Oper} {ox : Operand} {ax : Opd} {en : Env} {base : Nat} (ho : o.op = .nilCheck ox) (hx : RepV G (ax.get en) (ρ ox)) (hs : step base en h (.nilCheck ax) = some (v, h')) :
    (execOp ρ o).run P w = .ok (.value (ρ ox)) w ∧ RepV G v (ρ ox) ∧ h' = h := by
  unfold execOp
  simp only [ho]
  simp only [step] at hs
  generalize hq : ax.get en = q at hs hx
  cases q <;> first | (simp only [reduceCtorEq] at hs; done) | skip
  · injection hs with hs
    simp only [Prod.mk.injEq] at hs
    obtain ⟨rfl, rfl⟩ := hs
    refine ⟨?_, hx, rfl⟩
    simp only [RepV] at hx
    rw [hx.2]
    rfl
  · injection hs with hs
    simp only [Prod.mk.injEq] at hs
    obtain ⟨rfl, rfl⟩ := hs
    refine ⟨?_, hx, rfl⟩
    simp only [RepV] at hx
    obtain ⟨_, a, hr, _⟩ := hx
    rw [hr]
    rfl
  · injection hs with hs
    simp only [Prod.mk.injEq] at hs
    obtain ⟨rfl, rfl⟩ := hs
    refine ⟨?_, hx, rfl⟩
    simp only [RepV] at hx
    obtain ⟨b, oo, hr, _⟩ := hx
    rw [hr]
    rfl
  · rename_i f a c
    cases f <;> first | (simp only [reduceCtorEq] at hs; done) | skip
    injection hs with hs
    simp only [Prod.mk.injEq] at hs
    obtain ⟨rfl, rfl⟩ := hs
    refine ⟨?_, hx, rfl⟩
    simp only [RepV] at hx
    obtain ⟨ra, rc, hr, _⟩ := hx
    rw [hr]
    rfl

end
end Go.Am
