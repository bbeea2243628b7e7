/- Am: pieces of slices and strings; lengths; conversions of bytes. -/
import Derived.Test.YtefbdhbfhgapeaaDoorAmOps4
namespace Go.Am
section
variable {P : Program} {G : Tie} {w : World}

/-- A bound of a slice expression, in the machine. -/
def OB (d : Nat) (o : Option Value) (n : Nat) : Prop := (o = none ∧ n = d) ∨ ∃ k i, o = some (.int k i) ∧ 0 ≤ i ∧ i.toNat = n

theorem sliceBound_run {k : IntKind} {i : Int} {y : Nat} {code : BoundsCode} (h0 : 0 ≤ i) (h1 : i.toNat ≤ y) : (Instr.sliceBound (.int k i) y code).run P w = .ok i.toNat w := by
  have : 0 ≤ i ∧ i ≤ (y : Int) := ⟨h0, by omega⟩
  simp [Instr.sliceBound, asIntOf, this]

theorem bounds_run {b : Bool} {len cap l e m : Nat} {low high mx : Option Value} (hl : OB 0 low l) (hh : OB len high e) (hm : OB cap mx m) (hn : high = none → mx = none) (h1 : l ≤ e) (h2 : e ≤ m) (h3 : m ≤ cap) :
    (Instr.sliceBounds b len cap low high mx).run P w = .ok (l, e, m) w := by
  unfold Instr.sliceBounds
  rcases hm with ⟨rfl, rfl⟩ | ⟨km, im, rfl, hm0, rfl⟩
  · rcases hh with ⟨rfl, rfl⟩ | ⟨kh, ih, rfl, hh0, rfl⟩
    · rcases hl with ⟨rfl, rfl⟩ | ⟨kl, il, rfl, hl0, rfl⟩
      · simp
      · simp [sliceBound_run hl0 h1]
    · rcases hl with ⟨rfl, rfl⟩ | ⟨kl, il, rfl, hl0, rfl⟩
      · simp [sliceBound_run hh0 h2]
      · simp [sliceBound_run hl0 h1, sliceBound_run hh0 h2]
  · rcases hh with ⟨rfl, rfl⟩ | ⟨kh, ih, rfl, hh0, rfl⟩
    · simp at hn
    · rcases hl with ⟨rfl, rfl⟩ | ⟨kl, il, rfl, hl0, rfl⟩
      · simp [sliceBound_run hm0 h3, sliceBound_run hh0 h2]
      · simp [sliceBound_run hm0 h3, sliceBound_run hl0 h1, sliceBound_run hh0 h2]

theorem slice_run_raw {t e : TypeId} {s len cap l h m : Nat} {a : Option Addr} {low high mx : Option Value} (ht : P.underlying t = some (.slice e)) (hs : sizeO P e = some s) (hl : OB 0 low l) (hh : OB len high h) (hm : OB cap mx m)
    (hn : high = none → mx = none) (h1 : l ≤ h) (h2 : h ≤ m) (h3 : m ≤ cap) :
    (Instr.sliceAt t (.slice a len cap) low high mx).run P w = .ok (.slice (if m = l then a else a.map (·.add (l * s))) (h - l) (m - l)) w := by
  simp [Instr.sliceAt, Instr.slice, run_underlying ht w, bounds_run hl hh hm hn h1 h2 h3, sizeO_run hs w]

theorem sliceV_run {h h' : Heap} (R : Rel G h w) {t e : TypeId} {s l : Nat} {hi mx : Option Nat} {x v : V} {rx : Value} {low high rmx : Option Value} (ht : P.underlying t = some (.slice e)) (hs : sizeO P e = some s)
    (hx : RepV G x rx) (hl : OB 0 low l) (hh : ∀ d, OB d high (hi.getD d)) (hm : ∀ d, OB d rmx (mx.getD d)) (hn : high = none → rmx = none) (hmx : mx = none ↔ rmx = none) (hn' : hi = none → mx = none)
    (hv : sliceV h s x l hi mx = some (v, h')) :
    ∃ r G', (Instr.sliceAt t rx low high rmx).run P w = .ok r w ∧ Ext G G' ∧ Rel G' h' w ∧ RepV G' v r := by
  unfold sliceV at hv
  split at hv
  · rename_i ex z rs
    simp only [RepV] at hx
    obtain ⟨a, cap, rfl, hlc, hex, hg, b, o, ha, _, hR⟩ := hx
    split at hv
    · rename_i hc
      obtain ⟨hz, h1, h2, h3, h4⟩ := hc
      injection hv with hv
      simp only [Prod.mk.injEq] at hv
      obtain ⟨rfl, rfl⟩ := hv
      have hmc : mx.getD cap ≤ cap := by
        cases mx with
        | none => simp
        | some m => simp at h3 ⊢; omega
      have hem : hi.getD rs.length ≤ mx.getD cap := by
        cases mx with
        | none => simp; omega
        | some m => simp at h4 ⊢; omega
      refine ⟨_, G, slice_run_raw ht hs hl (hh _) (hm _) hn h1 hem hmc, Ext.refl G, R, ?_⟩
      generalize hE : hi.getD rs.length = E at *
      have hlen : ((rs.drop l).take (E - l)).length = E - l := by simp; omega
      simp only [RepV]
      refine ⟨_, _, by rw [hlen], by rw [hlen]; omega, ?_, ?_, b, o + l * z, ?_, ?_, ?_⟩
      · intro hx
        rw [hlen]
        cases mx with
        | none =>
          have hx' : ex.isFull = true ∧ E = rs.length := by
            simp only [exTo] at hx
            split at hx
            · rename_i hq; simpa using hq
            · simp [Cp.isFull] at hx
          have := hex hx'.1
          simp
          omega
        | some m =>
          have hx' : m = E := by
            simp only [exTo] at hx
            split at hx
            · rename_i hq; simpa using hq
            · simp [Cp.isFull] at hx
          simp
          omega
      · rw [List.all_eq_true] at hg ⊢
        exact fun y hy => hg y (List.mem_of_mem_drop (List.mem_of_mem_take hy))
      · intro hne
        have hlt : l < E := by
          rcases Nat.lt_or_ge l E with h | h
          · exact h
          · exfalso; apply hne; rw [show E - l = 0 by omega]; rfl
        have hrs : rs ≠ [] := by
          rintro rfl
          simp at h2
          omega
        have hzs : z = s := by
          simp only [Bool.or_eq_true, beq_iff_eq] at hz
          rcases hz with hz | hz
          · exact absurd (List.isEmpty_iff.1 hz) hrs
          · exact hz
        rw [if_neg (by omega), ha hrs]
        simp [add_none, hzs]
      · intro hx
        exfalso
        unfold exTo at hx
        cases mx <;> simp only at hx <;> split at hx <;> cases hx
      · exact RepRows.of_get fun i cs hi' => by
          rw [List.getElem?_take] at hi'
          split at hi'
          · rw [List.getElem?_drop] at hi'
            have := hR.get hi'
            rwa [Nat.add_mul, ← Nat.add_assoc] at this
          · simp at hi'
    · simp at hv
  · rename_i b ep off len
    split at hv
    · rename_i hc
      obtain ⟨h1, h2⟩ := hc
      split at hv
      · rename_i ty z e' rs eq
        split at hv
        · rename_i hc
          obtain ⟨rfl, rfl⟩ := hc
          simp only [RepV] at hx
          obtain ⟨hb, a, cap, rfl, hLx⟩ := hx
          obtain ⟨hpos, L, rs', hL, hLe, hLs, hcp, hw, hsz, hB⟩ := R.row _ _ _ _ _ eq
          obtain ⟨hk1, hk2⟩ := hLx L hL
          obtain ⟨hlc, hoc, haa⟩ := hk2 hLe.symm
          split at hv
          · injection hv with hv
            simp only [Prod.mk.injEq] at hv
            obtain ⟨rfl, rfl⟩ := hv
            have hrm : rmx = none := hmx.1 rfl
            subst hrm
            refine ⟨_, G, slice_run_raw ht hs hl (hh _) (.inl ⟨rfl, rfl⟩) (fun _ => rfl) h1 (by omega) (Nat.le_refl _), Ext.refl G, R, ?_⟩
            simp only [RepV]
            refine ⟨hb, if cap = l then a else a.add (l * z), cap - l, ?_, ?_⟩
            · split <;> rfl
            · intro L' hL'
              rw [hL] at hL'
              injection hL' with hL'
              subst hL'
              refine ⟨hk1, fun _ => ⟨by omega, by omega, fun hc => ?_⟩⟩
              rw [if_neg (by omega), haa (by omega), add_none, hLs, Nat.add_mul]
          · rename_i m
            split at hv
            · rename_i hc
              obtain ⟨rfl, rfl, rfl, hlen⟩ := hc
              injection hv with hv
              simp only [Prod.mk.injEq] at hv
              obtain ⟨rfl, rfl⟩ := hv
              have hhi : hi ≠ none := fun e => by have := hn' e; simp at this
              obtain ⟨E, rfl⟩ := Option.ne_none_iff_exists'.1 hhi
              simp only [Option.getD_some] at h1 h2 hm hh ⊢
              have hstep : Rel (G.setRow b { L with e := e' + 1 }) (h.set b (.row ty z (e' + 1) (rs.take E))) w := by
                refine R.setRowAt (L' := { L with e := e' + 1 }) eq hL (by simp; omega) (by simp; omega) rfl hLs (by simp; omega) (.inl rfl) (Nat.le_refl _) (fun _ _ _ => rfl) hw (by simpa using hsz) ?_
                intro i cs hi'
                rw [List.getElem?_take] at hi'
                split at hi'
                · exact hB i cs hi'
                · simp at hi'
              refine ⟨_, _, slice_run_raw ht hs hl (hh _) (hm _) hn h1 (Nat.le_refl _) (by omega), Ext.setRow G b L _ hL (by simp; omega) (by simp; omega), hstep, ?_⟩
              simp only [RepV]
              refine ⟨hb, a, E, ?_, ?_⟩
              · simp [Addr.add]
              · intro L' hL'
                simp only [Tie.setRow, if_true, Option.some.injEq] at hL'
                subst hL'
                refine ⟨Nat.le_refl _, fun _ => ⟨Nat.le_refl _, by simp; omega, fun hc => ?_⟩⟩
                have := haa (by omega)
                simpa using this
            · simp at hv
        · simp at hv
      · simp at hv
    · simp at hv
  · rename_i n c
    split at hv
    · rename_i hc
      obtain ⟨rfl, rfl, rfl, h2, h3⟩ := hc
      injection hv with hv
      simp only [Prod.mk.injEq] at hv
      obtain ⟨rfl, rfl⟩ := hv
      obtain rfl := hx.sc_inv
      refine ⟨_, G, slice_run_raw ht hs hl (hh 0) (hm 0) hn (by omega) (by omega) (by omega), Ext.refl G, R, ?_⟩
      simp only [h2, h3]
      simp [RepV, Value.oneCell']
    · simp at hv
  · simp at hv

end
end Go.Am
