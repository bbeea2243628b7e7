/- Am: '==' of structs; nil. -/
import Derived.Test.YtefbdhbfhgapeaaDoorAmOps1
import Derived.Laws.StructEq
namespace Go.Am
section
variable {P : Program} {G : Tie} {w : World}

theorem eqLeaves_append (xs ys : List V) : ∀ (l m : List (Nat × LK)), eqLeaves xs ys (l ++ m) = (eqLeaves xs ys l).bind fun a => (eqLeaves xs ys m).map fun b => a && b
  | [], m => by simp [eqLeaves]
  | o :: l, m => by
    simp only [List.cons_append, eqLeaves]
    split
    · rw [eqLeaves_append xs ys l m]
      cases eqCell o.2 _ _ <;> simp
      cases eqLeaves xs ys l <;> simp
      cases eqLeaves xs ys m <;> simp [Bool.and_assoc]
    · simp

theorem eqLeaves_shift (xs ys : List V) (o k : Nat) : ∀ (l : List (Nat × LK)), l.all (fun i => decide (i.1 < k)) = true →
    eqLeaves xs ys (l.map fun i => (o + i.1, i.2)) = eqLeaves ((xs.drop o).take k) ((ys.drop o).take k) l
  | [], _ => by simp [eqLeaves]
  | p :: l, h => by
    simp only [List.all_cons, Bool.and_eq_true, decide_eq_true_eq] at h
    have hx : ∀ zs : List V, ((zs.drop o).take k)[p.1]? = zs[o + p.1]? := by
      intro zs
      rw [List.getElem?_take_of_lt h.1, List.getElem?_drop]
    simp only [List.map_cons, eqLeaves, hx]
    rw [eqLeaves_shift xs ys o k l h.2]

theorem RepV.take {G : Tie} {xs : List V} {rs : Array Value} (h : RepL G xs rs.toList) (o k : Nat) : RepV G (.agg ((xs.drop o).take k)) (.agg (rs.extract o (o + k))) := by
  simp only [RepV]
  refine ⟨_, rfl, ?_⟩
  have : (rs.extract o (o + k)).toList = (rs.toList.drop o).take k := by
    simp [List.extract, Nat.add_sub_cancel_left]
  rw [this]
  exact (h.drop o).take k

theorem eq_run (w : World) : ∀ (k d : Nat) {t : TypeId} {ls : List (Nat × LK)} {n : Option Nat} {xs ys : List V} {rxs rys : Array Value} {res : Bool} {o : Nat}, k ≤ d → leavesOf P k t = some ls → shapeO P t = some n →
    ls.all (fun i => decide (i.1 < n.getD 1)) = true →
    RepL G xs rxs.toList → RepL G ys rys.toList → eqLeaves xs ys (ls.map fun i => (o + i.1, i.2)) = some res →
    ∃ a b, (part t rxs o).run P w = .ok a w ∧ (part t rys o).run P w = .ok b w ∧ (Op.equalIn d t a b).run P w = .ok res w
  | 0, _, _, _, _, _, _, _, _, _, _, _, h, _, _, _, _, _ => by simp [leavesOf] at h
  | k + 1, d, t, ls, n, xs, ys, rxs, rys, res, o, hd, h, hn, hall, hx, hy, he => by
    obtain ⟨d, rfl⟩ : ∃ m, d = m + 1 := ⟨d - 1, by omega⟩
    have hs := shape_run hn w
    have hscal : ∀ (kd : LK), ls = [(0, kd)] → n = none → ∃ x y rx ry, (part t rxs o).run P w = .ok rx w ∧ (part t rys o).run P w = .ok ry w ∧ RepV G x rx ∧ RepV G y ry ∧ eqCell kd x y = some res := by
      rintro kd rfl rfl
      simp only [List.map_cons, List.map_nil, Nat.add_zero, eqLeaves] at he
      split at he
      · rename_i x y ex ey
        obtain ⟨rx, h1, h2⟩ := hx.get ex
        obtain ⟨ry, h3, h4⟩ := hy.get ey
        rw [Array.getElem?_toList] at h1 h3
        refine ⟨x, y, rx, ry, by simp [part, hs, h1], by simp [part, hs, h3], h2, h4, ?_⟩
        cases hq : eqCell kd x y with
        | none => simp [hq] at he
        | some q => simpa [hq] using he
      · simp at he
    have hnone : ∀ {dd : TypeDesc}, P.underlying t = some dd → (match dd with | .struct _ | .array _ _ => true | _ => false) = false → n = none := by
      intro dd hu hf
      unfold shapeO aggT at hn
      rw [hu] at hn
      simp only [Option.map_some, Option.bind_some, Option.bind_eq_some_iff] at hn
      obtain ⟨m, _, hm⟩ := hn
      cases dd <;> simp_all
    unfold leavesOf at h
    split at h
    · rename_i hu
      injection h with h
      obtain ⟨x, y, rx, ry, h1, h2, h3, h4, h5⟩ := hscal .b h.symm (hnone hu rfl)
      refine ⟨rx, ry, h1, h2, ?_⟩
      unfold eqCell at h5
      split at h5 <;> simp_all
      obtain rfl := h3.sc_inv
      obtain rfl := h4.sc_inv
      rw [run_equalIn_bool' w d t _ _ hu]
      simp_all
    · rename_i kk hu
      injection h with h
      obtain ⟨x, y, rx, ry, h1, h2, h3, h4, h5⟩ := hscal .i h.symm (hnone hu rfl)
      refine ⟨rx, ry, h1, h2, ?_⟩
      unfold eqCell at h5
      split at h5 <;> simp_all
      obtain rfl := h3.sc_inv
      obtain rfl := h4.sc_inv
      obtain ⟨rfl, h5⟩ := h5
      rw [run_equalIn_int w d t _ _ _ _ hu]
      simp_all
    · rename_i hu
      injection h with h
      obtain ⟨x, y, rx, ry, h1, h2, h3, h4, h5⟩ := hscal .s h.symm (hnone hu rfl)
      refine ⟨rx, ry, h1, h2, ?_⟩
      unfold eqCell at h5
      split at h5 <;> simp_all
      obtain rfl := h3.sc_inv
      obtain rfl := h4.sc_inv
      rw [run_equalIn_string w d t _ _ hu, ← beq_toListBytes]
      simp_all
    · rename_i fs hu
      split at h
      · simp at h
      · rename_i hst
        have hst' : P.stoodInHeld t = false := by simpa using hst
        obtain ⟨m, rfl⟩ : ∃ m, n = some m := by
          unfold shapeO aggT at hn
          rw [hu] at hn
          simp only [Option.map_some, Option.bind_some, Option.bind_eq_some_iff, if_true] at hn
          obtain ⟨m, _, hm⟩ := hn
          injection hm with hm
          exact ⟨m, hm.symm⟩
        refine ⟨.agg (rxs.extract o (o + m)), .agg (rys.extract o (o + m)), by simp [part, hs.1, hs.2], by simp [part, hs.1, hs.2], ?_⟩
        have hfo : P.fieldsOf t = fs := by unfold Program.fieldsOf; rw [hu]
        rw [run_equalIn_struct w d t _ _ (by rw [hfo]; exact hu) hst', hfo]
        rw [eqLeaves_shift xs ys o m ls (by simpa using hall)] at he
        have hX := RepV.take hx o m
        have hY := RepV.take hy o m
        simp only [RepV] at hX hY
        obtain ⟨r1, e1, hX⟩ := hX
        obtain ⟨r2, e2, hY⟩ := hY
        injection e1 with e1
        injection e2 with e2
        subst e1
        subst e2
        generalize (xs.drop o).take m = xs' at *
        generalize (ys.drop o).take m = ys' at *
        generalize rxs.extract o (o + m) = rxs' at *
        generalize rys.extract o (o + m) = rys' at *
        clear hall hn hscal hnone hfo hu hs hst hst'
        generalize fs.toList = fl at h
        induction fl generalizing ls res with
        | nil => 
          simp only [leavesFs, Option.some.injEq] at h
          subst h
          simp only [eqLeaves, Option.some.injEq] at he
          subst he
          simp [Op.eqFields]
        | cons f fl ih =>
          unfold leavesFs at h
          unfold Op.eqFields
          split at h
          · rename_i hname
            rw [if_neg (by simpa using hname)]
            exact ih _ _ he h
          · rename_i hname
            rw [if_pos hname]
            simp only [Option.bind_eq_some_iff] at h
            obtain ⟨l, hl, n', hn', h⟩ := h
            split at h
            · rename_i hal
              simp only [Option.map_eq_some_iff] at h
              obtain ⟨l2, hl2, rfl⟩ := h
              rw [eqLeaves_append] at he
              simp only [Option.bind_eq_some_iff, Option.map_eq_some_iff] at he
              obtain ⟨q1, hq1, q2, hq2, rfl⟩ := he
              obtain ⟨a, b, ha, hb, hab⟩ := eq_run w k d (by omega) hl hn' hal hX hY hq1
              simp only [Sem.run_bind, ha, hb, hab, Result.andThen_ok, Sem.run_ite]
              cases q1
              · simp
              · simpa using ih _ _ hq2 hl2
            · simp at h
    · simp at h

end
end Go.Am
