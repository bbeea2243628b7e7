/- The abstract machine and what is proved in it, part 10. -/
import Derived.Test.YtbeaelflokcdjaaGreatDoorAm9
set_option linter.unusedVariables false
set_option linter.unusedSimpArgs false
namespace Go.Am
section
theorem byteAt (s : ByteArray) (k : Nat) : s[k]? = s.data.toList[k]? := by
  by_cases h : k < s.size
  · have h' : k < s.data.toList.length := by simpa using h
    rw [List.getElem?_eq_getElem h', getElem?_pos s k h]
    rfl
  · have h' : s.data.toList.length ≤ k := by
      have : s.data.toList.length = s.size := by simp
      omega
    rw [List.getElem?_eq_none h', getElem?_neg s k h]
def letS : ByteArray := ⟨#[85, 85, 74, 73, 66, 66, 66, 66, 66, 66, 73, 73, 73, 73, 73, 73, 73, 83, 83, 83, 83, 73, 73, 73, 73, 73, 73, 72, 72, 72, 73, 87, 87, 87, 82, 82, 82, 82, 82, 82, 82, 82, 82, 82, 82, 82, 82, 82, 82, 82, 82, 82, 82, 82, 82, 82, 82, 82, 82, 82, 82, 82, 70, 78, 78, 76, 65, 65, 65, 65, 65, 65, 65, 65, 65, 65, 76, 65, 65, 65, 65, 65, 65, 65, 65, 65, 65]⟩
def letB (op : Int) : Nat := if 1 ≤ op ∧ op ≤ 87 then (letS.data.toList.getD (op - 1).toNat 0).toNat else 0
theorem letter_r {base : Nat} (op : Int) (h : Heap) : WpF S0 base k_spinnakerref03_letter [.sc (.int .i64 op)] h fun v h' => v = .sc (.int .u8 (letB op)) ∧ h' = h := by
  first | refine zu (A := f_spinnakerref03_letter) rfl rfl rfl rfl ?_ | refine zB (A := f_spinnakerref03_letter) rfl rfl rfl rfl ?_
  simp only [f_spinnakerref03_letter, oD, cD]
  by_cases h1 : op < 1
  · simp only [SQ, SQB, zm, AOp.opds, step, Opd.get, zk, bin, zc, IntKind.signed, zi, zj, zl, zb, unary, ze, zd, za, zo, zr, zh, zf, zg, zp, Cp.isFull, isNil, zq, simprocAttr, h1]
    simp [letB, show ¬ (1 ≤ op ∧ op ≤ 87) by omega]
  by_cases h2 : 87 < op
  · simp only [SQ, SQB, zm, AOp.opds, step, Opd.get, zk, bin, zc, IntKind.signed, zi, zj, zl, zb, unary, ze, zd, za, zo, zr, zh, zf, zg, zp, Cp.isFull, isNil, zq, simprocAttr, h1, h2]
    simp [letB, show ¬ (1 ≤ op ∧ op ≤ 87) by omega]
  have hl : (op - 1).toNat < letS.data.toList.length := by
    have : letS.data.toList.length = 87 := by decide
    omega
  have e1 : letS[(op - 1).toNat]? = some (letS.data.toList[(op - 1).toNat]) := by
    rw [byteAt, List.getElem?_eq_getElem hl]
  unfold letS at e1
  have e2 : IntKind.i64.wrap (op - 1) = op - 1 := wrap_i64 (by omega) (by omega)
  simp only [SQ, SQB, zm, AOp.opds, step, Opd.get, zk, bin, zc, IntKind.signed, zi, zj, zl, zb, unary, ze, zd, za, zo, zr, zh, zf, zg, zp, Cp.isFull, isNil, zq, simprocAttr, h1, h2, e2, show (0 : Int) ≤ op - 1 by omega, show ¬ (op - 1 < 0) by omega, e1]
  unfold letB
  rw [if_pos ⟨by omega, by omega⟩, List.getD_eq_getElem?_getD, List.getElem?_eq_getElem hl]
  rfl
theorem has3_r {base : Nat} (op : Int) (l : ByteArray) (h : Heap) (hl : l.size < 1000) : WpF S0 base k_spinnakerref03_has [.sc (.int .i64 op), .sc (.string l)] h fun v h' => v = .bool (l.data.toList.any fun c => letB op == c.toNat) ∧ h' = h := by
  have hL : ∀ base h, WpF S0 base k_spinnakerref03_letter [.sc (.int .i64 op)] h fun v h' => v = .sc (.int .u8 (letB op)) ∧ h' = h := fun base h => letter_r op h
  have hsz : l.data.toList.length = l.size := by simp
  first | refine zu (A := f_spinnakerref03_has) rfl rfl rfl rfl ?_ | refine zB (A := f_spinnakerref03_has) rfl rfl rfl rfl ?_
  simp only [f_spinnakerref03_has, oD, cD]
  simp only [SQ, SQB, zm, AOp.opds, step, Opd.get, zk, bin, zc, IntKind.signed, zi, zj, zl, zb, unary, ze, zd, za, zo, zr, zh, zf, zg, zp, Cp.isFull, isNil, zq, simprocAttr, ]
  refine WpC_loopI (fun k en h' => ∃ i : Nat, k = l.size - i ∧ i ≤ l.size ∧ en 5 = V.int i ∧ en 0 = .sc (.int .i64 op) ∧ en 1 = .sc (.string l) ∧ ((l.data.toList.take i).any fun c => letB op == c.toNat) = false ∧ h' = h) l.size ⟨0, rfl, Nat.zero_le _, rfl, rfl, rfl, rfl, rfl⟩ ?_
  rintro k en h' ⟨i, rfl, hi, e5, e0, e1, hall, rfl⟩
  by_cases h4 : i < l.size
  · have h4' : i < l.data.toList.length := by omega
    have hbi : l[i]? = some l.data.toList[i] := by rw [byteAt, List.getElem?_eq_getElem h4']
    have htk : l.data.toList.take (i + 1) = l.data.toList.take i ++ [l.data.toList[i]] := by rw [List.take_add_one, List.getElem?_eq_getElem h4']; rfl
    by_cases hc : letB op = (l.data.toList[i]).toNat
    · have hany : (l.data.toList.any fun c => letB op == c.toNat) = true := by
        rw [List.any_eq_true]
        exact ⟨_, List.getElem_mem h4', by rw [hc]; simp⟩
      rw [hany]
      simp only [SQ, SQB, zm, AOp.opds, step, Opd.get, zk, bin, zc, IntKind.signed, zi, zj, zl, zb, unary, ze, zd, za, zo, zr, zh, zf, zg, zp, Cp.isFull, isNil, zq, simprocAttr, e5, e0, e1, h4, hbi, zn (hL _ _), hc]
    · simp only [SQ, SQB, zm, AOp.opds, step, Opd.get, zk, bin, zc, IntKind.signed, zi, zj, zl, zb, unary, ze, zd, za, zo, zr, zh, zf, zg, zp, Cp.isFull, isNil, zq, simprocAttr, e5, e0, e1, h4, hbi, zn (hL _ _), show ¬ ((letB op : Int) = ((l.data.toList[i]).toNat : Int)) by omega]
      exact ⟨l.size - (i + 1), by omega, i + 1, rfl, by omega, by rw [wrap_i64 (by omega) (by omega)]; rfl, by rw [htk, List.any_append, hall]; simp only [List.any_cons, List.any_nil, Bool.or_false, Bool.false_or, beq_eq_false_iff_ne]; exact hc⟩
  · simp only [SQ, SQB, zm, AOp.opds, step, Opd.get, zk, bin, zc, IntKind.signed, zi, zj, zl, zb, unary, ze, zd, za, zo, zr, zh, zf, zg, zp, Cp.isFull, isNil, zq, simprocAttr, e5, e0, e1, h4]
    have : l.data.toList.take i = l.data.toList := List.take_of_length_le (by omega)
    rw [this] at hall
    rw [hall]
def formL (c : Int) : Int := if c = 85 then 1 else if c = 74 then 2 else if c = 73 then 3 else if c = 66 then 4 else if c = 83 then 5 else if c = 82 then 6 else if c = 72 then 7 else if c = 87 then 8 else if c = 70 then 9 else if c = 78 then 0 else if c = 76 then 10 else if c = 65 then 11 else -1
def formI (op : Int) : Int := formL (letB op)
theorem form3_r {base : Nat} (op : Int) (h : Heap) : WpF S0 base k_spinnakerref03_Form [.sc (.int .i64 op)] h fun v h' => v = .sc (.int .i64 (formI op)) ∧ h' = h := by
  have hL : ∀ base h, WpF S0 base k_spinnakerref03_letter [.sc (.int .i64 op)] h fun v h' => v = .sc (.int .u8 (letB op)) ∧ h' = h := fun base h => letter_r op h
  unfold formI
  generalize letB op = c at *
  first | refine zu (A := f_spinnakerref03_Form) rfl rfl rfl rfl ?_ | refine zB (A := f_spinnakerref03_Form) rfl rfl rfl rfl ?_
  simp only [f_spinnakerref03_Form, oD, cD]
  (simp only [SQ, zm, AOp.opds, step, Opd.get, zk, bin, zc, IntKind.signed, zi, zj, zl, zb, unary, ze, zd, za, zo, zr, zh, zf, zg, zp, Cp.isFull, isNil, zq, simprocAttr, SQX, V.cells, zn (hL _ _)]; repeat' ((first | refine condQ_i ?_ ?_ | refine guardQ_t ?_ ?_ | refine guardQ_f ?_ ?_) <;> (intro hb; simp only [SQ, zm, AOp.opds, step, Opd.get, zk, bin, zc, IntKind.signed, zi, zj, zl, zb, unary, ze, zd, za, zo, zr, zh, zf, zg, zp, Cp.isFull, isNil, zq, simprocAttr, SQX, V.cells, hb, zn (hL _ _)])))
  all_goals simp_all [formL]
def fRd (f : Int) : Bool := f == 1 || f == 2 || f == 3 || f == 6 || f == 7 || f == 8 || f == 10 || f == 11
def fA (f : Int) : Bool := f == 3 || f == 4 || f == 5 || f == 6 || f == 7 || f == 8 || f == 10 || f == 11
def fB (f : Int) : Bool := f == 4 || f == 5 || f == 6 || f == 11
def fO (f : Int) : Bool := f == 10 || f == 11
theorem letB_lt (op : Int) : letB op < 128 := by
  unfold letB
  split
  · rename_i h
    obtain ⟨n, rfl⟩ : ∃ n : Nat, op = n + 1 := ⟨(op - 1).toNat, by omega⟩
    have : ∀ n < 87, (letS.data.toList.getD n 0).toNat < 128 := by decide
    rw [show ((n : Int) + 1 - 1).toNat = n by omega]
    exact this n (by omega)
  · decide
theorem has_tab (op : Int) : ((([85, 74, 73, 82, 72, 87, 76, 65] : List UInt8).any fun c => letB op == c.toNat) = fRd (formI op)) ∧ ((([73, 66, 83, 82, 72, 87, 76, 65] : List UInt8).any fun c => letB op == c.toNat) = fA (formI op)) ∧ ((([66, 83, 82, 65] : List UInt8).any fun c => letB op == c.toNat) = fB (formI op)) ∧ ((([76, 65] : List UInt8).any fun c => letB op == c.toNat) = fO (formI op)) := by
  unfold formI
  have h := letB_lt op
  generalize letB op = c at *
  have : ∀ c < 128, ((([85, 74, 73, 82, 72, 87, 76, 65] : List UInt8).any fun d => c == d.toNat) = fRd (formL c)) ∧ ((([73, 66, 83, 82, 72, 87, 76, 65] : List UInt8).any fun d => c == d.toNat) = fA (formL c)) ∧ ((([66, 83, 82, 65] : List UInt8).any fun d => c == d.toNat) = fB (formL c)) ∧ ((([76, 65] : List UInt8).any fun d => c == d.toNat) = fO (formL c)) := by decide +kernel
  obtain ⟨a1, a2, a3, a4⟩ := this c h
  exact ⟨a1, a2, a3, a4⟩
theorem hasRd_r {base : Nat} (op : Int) (h : Heap) : WpF S0 base k_spinnakerref03_HasRd [.sc (.int .i64 op)] h fun v h' => v = .bool (fRd (formI op)) ∧ h' = h := by
  have hL : ∀ base h, WpF S0 base k_spinnakerref03_has [.sc (.int .i64 op), .sc (.string ⟨#[85, 74, 73, 82, 72, 87, 76, 65]⟩)] h fun v h' => v = .bool (fRd (formI op)) ∧ h' = h := fun base h => (has_tab op).1 ▸ has3_r op ⟨#[85, 74, 73, 82, 72, 87, 76, 65]⟩ h (by decide)
  first | refine zu (A := f_spinnakerref03_HasRd) rfl rfl rfl rfl ?_ | refine zB (A := f_spinnakerref03_HasRd) rfl rfl rfl rfl ?_
  simp only [f_spinnakerref03_HasRd, oD, cD]
  simp only [SQ, SQB, zm, AOp.opds, step, Opd.get, zk, bin, zc, IntKind.signed, zi, zj, zl, zb, unary, ze, zd, za, zo, zr, zh, zf, zg, zp, Cp.isFull, isNil, zq, simprocAttr, zn (hL _ _)]
theorem hasA_r {base : Nat} (op : Int) (h : Heap) : WpF S0 base k_spinnakerref03_HasA [.sc (.int .i64 op)] h fun v h' => v = .bool (fA (formI op)) ∧ h' = h := by
  have hL : ∀ base h, WpF S0 base k_spinnakerref03_has [.sc (.int .i64 op), .sc (.string ⟨#[73, 66, 83, 82, 72, 87, 76, 65]⟩)] h fun v h' => v = .bool (fA (formI op)) ∧ h' = h := fun base h => (has_tab op).2.1 ▸ has3_r op ⟨#[73, 66, 83, 82, 72, 87, 76, 65]⟩ h (by decide)
  first | refine zu (A := f_spinnakerref03_HasA) rfl rfl rfl rfl ?_ | refine zB (A := f_spinnakerref03_HasA) rfl rfl rfl rfl ?_
  simp only [f_spinnakerref03_HasA, oD, cD]
  simp only [SQ, SQB, zm, AOp.opds, step, Opd.get, zk, bin, zc, IntKind.signed, zi, zj, zl, zb, unary, ze, zd, za, zo, zr, zh, zf, zg, zp, Cp.isFull, isNil, zq, simprocAttr, zn (hL _ _)]
theorem hasB_r {base : Nat} (op : Int) (h : Heap) : WpF S0 base k_spinnakerref03_HasB [.sc (.int .i64 op)] h fun v h' => v = .bool (fB (formI op)) ∧ h' = h := by
  have hL : ∀ base h, WpF S0 base k_spinnakerref03_has [.sc (.int .i64 op), .sc (.string ⟨#[66, 83, 82, 65]⟩)] h fun v h' => v = .bool (fB (formI op)) ∧ h' = h := fun base h => (has_tab op).2.2.1 ▸ has3_r op ⟨#[66, 83, 82, 65]⟩ h (by decide)
  first | refine zu (A := f_spinnakerref03_HasB) rfl rfl rfl rfl ?_ | refine zB (A := f_spinnakerref03_HasB) rfl rfl rfl rfl ?_
  simp only [f_spinnakerref03_HasB, oD, cD]
  simp only [SQ, SQB, zm, AOp.opds, step, Opd.get, zk, bin, zc, IntKind.signed, zi, zj, zl, zb, unary, ze, zd, za, zo, zr, zh, zf, zg, zp, Cp.isFull, isNil, zq, simprocAttr, zn (hL _ _)]
end
section
def inI (o a b : Int) : Bool := decide (a ≤ o) && decide (o ≤ b)
theorem isaIn_r {base : Nat} (o a b : Int) (h : Heap) : WpF S0 base k_isa_in [.sc (.int .i64 o), .sc (.int .i64 a), .sc (.int .i64 b)] h fun v h' => v = .bool (inI o a b) ∧ h' = h := by
  first | refine zu (A := f_isa_in) rfl rfl rfl rfl ?_ | refine zB (A := f_isa_in) rfl rfl rfl rfl ?_
  simp only [f_isa_in, oD, cD]
  (simp only [SQ, zm, AOp.opds, step, Opd.get, zk, bin, zc, IntKind.signed, zi, zj, zl, zb, unary, ze, zd, za, zo, zr, zh, zf, zg, zp, Cp.isFull, isNil, zq, simprocAttr, SQX, V.cells]; repeat' ((first | refine condQ_i ?_ ?_ | refine guardQ_t ?_ ?_ | refine guardQ_f ?_ ?_) <;> (intro hb; simp only [SQ, zm, AOp.opds, step, Opd.get, zk, bin, zc, IntKind.signed, zi, zj, zl, zb, unary, ze, zd, za, zo, zr, zh, zf, zg, zp, Cp.isFull, isNil, zq, simprocAttr, SQX, V.cells, hb])))
  all_goals simp_all [inI]
  all_goals omega
def strOf : V → Option ByteArray
  | .sc (.string s) => some s
  | _ => none
def nameTab : Bool := (List.range 88).all fun n => match g0[n]? with
  | some v => (match strOf v with
    | some s => (s.size == 0) == (n == 0)
    | none => false)
  | none => false
theorem nameTab_t : nameTab = true := by decide +kernel
def nameS (op : Int) : ByteArray := if 1 ≤ op ∧ op ≤ 87 then (match strOf (g0.getD op.toNat .undef) with
  | some s => s
  | none => ⟨#[]⟩) else ⟨#[]⟩
theorem strOf_some {v : V} {s : ByteArray} (h : strOf v = some s) : v = .sc (.string s) := by
  unfold strOf at h
  split at h
  · simp only [Option.some.injEq] at h; rw [h]
  · simp at h
theorem name_get (n : Nat) (h0 : 1 ≤ n) (h : n < 88) : g0[n]? = some (.sc (.string (nameS n))) ∧ (nameS n).size ≠ 0 := by
  have ht := nameTab_t
  unfold nameTab at ht
  rw [List.all_eq_true] at ht
  have := ht n (List.mem_range.2 h)
  split at this
  · rename_i v hv
    split at this
    · rename_i s hs
      have hv2 : g0.getD n V.undef = v := by rw [List.getD_eq_getElem?_getD, hv]; rfl
      have e : nameS n = s := by
        unfold nameS
        rw [if_pos ⟨by omega, by omega⟩, Int.toNat_natCast, hv2, hs]
      rw [hv, strOf_some hs, e]
      refine ⟨rfl, fun q => ?_⟩
      rw [show (s.size == 0) = true by simpa using q] at this
      have : (n == 0) = true := by simpa using this
      simp at this
      omega
    · simp at this
  · simp at this
theorem nameS_out {op : Int} (h : ¬ (1 ≤ op ∧ op ≤ 87)) : nameS op = ⟨#[]⟩ := by unfold nameS; rw [if_neg h]
theorem toList_nil (s : ByteArray) : (s.toList == (⟨#[]⟩ : ByteArray).toList) = decide (s.size = 0) := by
  rw [ByteArray.toList_eq, ByteArray.toList_eq]
  have e : (⟨#[]⟩ : ByteArray).data.toList = [] := rfl
  rw [e]
  have : s.data.toList.length = s.size := by simp
  cases hl : s.data.toList with
  | nil => rw [hl] at this; simp at this; simp [← this]
  | cons c r => rw [hl] at this; simp at this; simp [← this]
theorem name_nil (op : Int) : ((nameS op).toList == (⟨#[]⟩ : ByteArray).toList) = decide (¬ (1 ≤ op ∧ op ≤ 87)) := by
  rw [toList_nil]
  by_cases h : 1 ≤ op ∧ op ≤ 87
  · obtain ⟨n, rfl⟩ : ∃ n : Nat, op = n := ⟨op.toNat, by omega⟩
    rw [decide_eq_false (name_get n (by omega) (by omega)).2]
    exact (decide_eq_false (fun q => q h)).symm
  · rw [nameS_out h]
    simp only [show (⟨#[]⟩ : ByteArray).size = 0 from rfl, decide_true]
    exact (decide_eq_true h).symm
theorem isaName_r {base : Nat} (op : Int) (h : Heap) : WpF S0 base k_isa_Name [.sc (.int .i64 op)] h fun v h' => v = .sc (.string (nameS op)) ∧ h' = h := by
  have hi : ∀ base h, WpF S0 base k_isa_in [.sc (.int .i64 op), .sc (.int .i64 1), .sc (.int .i64 87)] h fun v h' => v = .bool (inI op 1 87) ∧ h' = h := fun base h => isaIn_r op 1 87 h
  first | refine zu (A := f_isa_Name) rfl rfl rfl rfl ?_ | refine zB (A := f_isa_Name) rfl rfl rfl rfl ?_
  simp only [f_isa_Name, oD, cD]
  by_cases hr : 1 ≤ op ∧ op ≤ 87
  · obtain ⟨n, rfl⟩ : ∃ n : Nat, op = n := ⟨op.toNat, by omega⟩
    have e1 : inI (n : Int) 1 87 = true := by simp [inI]; omega
    rw [e1] at hi
    simp only [SQ, SQB, zm, AOp.opds, step, Opd.get, zk, bin, zc, IntKind.signed, zi, zj, zl, zb, unary, ze, zd, za, zo, zr, zh, zf, zg, zp, Cp.isFull, isNil, zq, simprocAttr, SQX, V.cells, zn (hi _ _), show (n : Int) < 88 by omega, show n < 88 by omega, Nat.mul_one, (name_get n (by omega) (by omega)).1]
  · have e1 : inI op 1 87 = false := by simp [inI]; omega
    rw [e1] at hi
    simp only [SQ, SQB, zm, AOp.opds, step, Opd.get, zk, bin, zc, IntKind.signed, zi, zj, zl, zb, unary, ze, zd, za, zo, zr, zh, zf, zg, zp, Cp.isFull, isNil, zq, simprocAttr, zn (hi _ _)]
    rw [nameS_out hr]
theorem inI_tab (o a b : Int) : inI o a b = decide (a ≤ o ∧ o ≤ b) := by simp [inI]
def otherP (o : Int) : Int := if o = 28 ∨ o = 29 ∨ o = 30 then 7 else if o = 32 ∨ o = 33 ∨ o = 34 then 8 else if o = 63 then 9 else if o = 64 ∨ o = 65 then 0 else if o = 66 ∨ o = 77 then 10 else if 66 < o then 11 else 3
theorem isaOther_r {base : Nat} (op : Int) (h : Heap) : WpF S0 base k_isa_other [.sc (.int .i64 op)] h fun v h' => v = .sc (.int .i64 (otherP op)) ∧ h' = h := by
  first | refine zu (A := f_isa_other) rfl rfl rfl rfl ?_ | refine zB (A := f_isa_other) rfl rfl rfl rfl ?_
  simp only [f_isa_other, oD, cD]
  (simp only [SQ, zm, AOp.opds, step, Opd.get, zk, bin, zc, IntKind.signed, zi, zj, zl, zb, unary, ze, zd, za, zo, zr, zh, zf, zg, zp, Cp.isFull, isNil, zq, simprocAttr, SQX, V.cells]; repeat' ((first | refine condQ_i ?_ ?_ | refine guardQ_t ?_ ?_ | refine guardQ_f ?_ ?_) <;> (intro hb; simp only [SQ, zm, AOp.opds, step, Opd.get, zk, bin, zc, IntKind.signed, zi, zj, zl, zb, unary, ze, zd, za, zo, zr, zh, zf, zg, zp, Cp.isFull, isNil, zq, simprocAttr, SQX, V.cells, hb])))
  all_goals simp_all [otherP]
  all_goals omega
def formP (o : Int) : Int := if ¬ (1 ≤ o ∧ o ≤ 87) then -1 else if o ≤ 2 then 1 else if o = 3 then 2 else if 5 ≤ o ∧ o ≤ 10 then 4 else if 18 ≤ o ∧ o ≤ 21 then 5 else if 35 ≤ o ∧ o ≤ 62 then 6 else otherP o
theorem formP_eq (o : Int) : formP o = formI o := by
  by_cases h : 1 ≤ o ∧ o ≤ 87
  · obtain ⟨n, rfl⟩ : ∃ n : Nat, o = n := ⟨o.toNat, by omega⟩
    have : ∀ n : Nat, n < 88 → formP (n : Int) = formI (n : Int) := by decide +kernel
    exact this n (by omega)
  · rw [formP, if_pos h, formI, letB, if_neg h]
    rfl
theorem isaForm_r {base : Nat} (op : Int) (h : Heap) : WpF S0 base k_isa_Form [.sc (.int .i64 op)] h fun v h' => v = .sc (.int .i64 (formI op)) ∧ h' = h := by
  have hn := fun base h => isaName_r (base := base) op h
  have hi := fun base a b h => isaIn_r (base := base) op a b h
  have ho := fun base h => isaOther_r (base := base) op h
  rw [← formP_eq]
  first | refine zu (A := f_isa_Form) rfl rfl rfl rfl ?_ | refine zB (A := f_isa_Form) rfl rfl rfl rfl ?_
  simp only [f_isa_Form, oD, cD]
  (simp only [SQ, zm, AOp.opds, step, Opd.get, zk, bin, zc, IntKind.signed, zi, zj, zl, zb, unary, ze, zd, za, zo, zr, zh, zf, zg, zp, Cp.isFull, isNil, zq, simprocAttr, SQX, V.cells, zn (hn _ _), zn (hi _ _ _ _), zn (ho _ _), zE, name_nil]; repeat' ((first | refine condQ_i ?_ ?_ | refine guardQ_t ?_ ?_ | refine guardQ_f ?_ ?_) <;> (intro hb; simp only [SQ, zm, AOp.opds, step, Opd.get, zk, bin, zc, IntKind.signed, zi, zj, zl, zb, unary, ze, zd, za, zo, zr, zh, zf, zg, zp, Cp.isFull, isNil, zq, simprocAttr, SQX, V.cells, hb, zn (hn _ _), zn (hi _ _ _ _), zn (ho _ _), zE, name_nil])))
  all_goals (simp_all [formP, inI_tab]; try omega)
theorem isaFields_r {base : Nat} (f : Int) (h : Heap) : WpF S0 base k_isa_fields [.sc (.int .i64 f)] h fun v h' => v = .tup [.bool (fRd f), .bool (fA f), .bool (fB f)] ∧ h' = h := by
  first | refine zu (A := f_isa_fields) rfl rfl rfl rfl ?_ | refine zB (A := f_isa_fields) rfl rfl rfl rfl ?_
  simp only [f_isa_fields, oD, cD]
  (simp only [SQ, zm, AOp.opds, step, Opd.get, zk, bin, zc, IntKind.signed, zi, zj, zl, zb, unary, ze, zd, za, zo, zr, zh, zf, zg, zp, Cp.isFull, isNil, zq, simprocAttr, SQX, V.cells]; repeat' ((first | refine condQ_i ?_ ?_ | refine guardQ_t ?_ ?_ | refine guardQ_f ?_ ?_) <;> (intro hb; simp only [SQ, zm, AOp.opds, step, Opd.get, zk, bin, zc, IntKind.signed, zi, zj, zl, zb, unary, ze, zd, za, zo, zr, zh, zf, zg, zp, Cp.isFull, isNil, zq, simprocAttr, SQX, V.cells, hb])))
  all_goals simp_all [fRd, fA, fB]
def regI (r : Int) (has : Bool) : Bool := decide (0 ≤ r) && decide (r < 32) && (has || decide (r = 0))
theorem isaReg_r {base : Nat} (r : Int) (b : Bool) (h : Heap) : WpF S0 base k_isa_register [.sc (.int .i64 r), .sc (.bool b)] h fun v h' => v = .bool (regI r b) ∧ h' = h := by
  first | refine zu (A := f_isa_register) rfl rfl rfl rfl ?_ | refine zB (A := f_isa_register) rfl rfl rfl rfl ?_
  simp only [f_isa_register, oD, cD]
  (simp only [SQ, zm, AOp.opds, step, Opd.get, zk, bin, zc, IntKind.signed, zi, zj, zl, zb, unary, ze, zd, za, zo, zr, zh, zf, zg, zp, Cp.isFull, isNil, zq, simprocAttr, SQX, V.cells]; repeat' ((first | refine condQ_i ?_ ?_ | refine guardQ_t ?_ ?_ | refine guardQ_f ?_ ?_) <;> (intro hb; simp only [SQ, zm, AOp.opds, step, Opd.get, zk, bin, zc, IntKind.signed, zi, zj, zl, zb, unary, ze, zd, za, zo, zr, zh, zf, zg, zp, Cp.isFull, isNil, zq, simprocAttr, SQX, V.cells, hb])))
  all_goals (simp_all [regI]; try omega)
theorem reg3_r {base : Nat} (r : Int) (b : Bool) (h : Heap) : WpF S0 base k_spinnakerref03_register [.sc (.int .i64 r), .sc (.bool b)] h fun v h' => v = .bool (regI r b) ∧ h' = h := by
  first | refine zu (A := f_spinnakerref03_register) rfl rfl rfl rfl ?_ | refine zB (A := f_spinnakerref03_register) rfl rfl rfl rfl ?_
  simp only [f_spinnakerref03_register, oD, cD]
  (simp only [SQ, zm, AOp.opds, step, Opd.get, zk, bin, zc, IntKind.signed, zi, zj, zl, zb, unary, ze, zd, za, zo, zr, zh, zf, zg, zp, Cp.isFull, isNil, zq, simprocAttr, SQX, V.cells]; repeat' ((first | refine condQ_i ?_ ?_ | refine guardQ_t ?_ ?_ | refine guardQ_f ?_ ?_) <;> (intro hb; simp only [SQ, zm, AOp.opds, step, Opd.get, zk, bin, zc, IntKind.signed, zi, zj, zl, zb, unary, ze, zd, za, zo, zr, zh, zf, zg, zp, Cp.isFull, isNil, zq, simprocAttr, SQX, V.cells, hb])))
  all_goals (simp_all [regI]; try omega)
end
section
def fitI (v : Int) (n : Nat) : Bool := decide (-(2 ^ (n - 1)) ≤ v) && decide (v < 2 ^ (n - 1))
theorem S_fit (n : Nat) (v : Int) (h0 : -9223372036854775808 ≤ v) (h1 : v ≤ 9223372036854775807) (hn : n = 12 ∨ n = 13 ∨ n = 20 ∨ n = 21) : (S n (uN v) == v) = fitI v n := by
  rw [Bool.eq_iff_iff]
  unfold S fitI uN
  rw [beq_iff_eq, Bool.and_eq_true, decide_eq_true_eq, decide_eq_true_eq]
  rcases hn with rfl | rfl | rfl | rfl <;> simp only [Nat.reduceSub, Nat.reducePow, Int.reducePow, Int.reduceNeg] <;> split <;> omega
theorem wFits_r {base : Nat} (v : Int) (n : Nat) (h : Heap) (h0 : -9223372036854775808 ≤ v) (h1 : v ≤ 9223372036854775807) (hn : n = 12 ∨ n = 13 ∨ n = 20 ∨ n = 21) : WpF S0 base k_word_Fits [.sc (.int .i64 v), V.int n] h fun r h' => r = .bool (fitI v n) ∧ h' = h := by
  first | refine zu (A := f_word_Fits) rfl rfl rfl rfl ?_ | refine zB (A := f_word_Fits) rfl rfl rfl rfl ?_
  simp only [f_word_Fits, oD, cD]
  have e1 : IntKind.i64.wrap (64 - (n : Int)) = ((64 - n : Nat) : Int) := by rw [wrap_i64 (by omega) (by omega)]; omega
  have e2 := wrap_uN v
  have e3 : min (64 - n) IntKind.u64.bits = 64 - n := Nat.min_eq_left (by simp only [IntKind.bits]; omega)
  have e4 : min (64 - n) IntKind.i64.bits = 64 - n := Nat.min_eq_left (by simp only [IntKind.bits]; omega)
  have e5 := S_fit n v h0 h1 hn
  rw [← e5]
  simp only [SQ, SQB, zm, AOp.opds, step, Opd.get, zk, bin, zc, IntKind.signed, zi, zj, zl, zb, unary, ze, zd, za, zo, zr, zh, zf, zg, zp, Cp.isFull, isNil, zq, simprocAttr, show ¬ (n : Int) < 1 by omega, show ¬ (64 : Int) < n by omega, e1, e2, e3, e4, show ¬ ((64 - n : Nat) : Int) < 0 by omega, sgn_eq n (uN v) hn]
theorem rFits_r {base : Nat} (v : Int) (n : Nat) (h : Heap) (hn : n = 12 ∨ n = 13 ∨ n = 20 ∨ n = 21) : WpF S0 base k_spinnakerref01_Fits [.sc (.int .i64 v), V.int n] h fun r h' => r = .bool (fitI v n) ∧ h' = h := by
  obtain ⟨m, rfl⟩ : ∃ m, n = m + 1 := ⟨n - 1, by omega⟩
  have hP : ∀ base h, WpF S0 base k_spinnakerref01_Power [V.int m] h fun r h' => r = U64 (2 ^ m) ∧ h' = h := fun base h => rPower_r m h (by omega)
  first | refine zu (A := f_spinnakerref01_Fits) rfl rfl rfl rfl ?_ | refine zB (A := f_spinnakerref01_Fits) rfl rfl rfl rfl ?_
  simp only [f_spinnakerref01_Fits, oD, cD]
  have e1 : IntKind.i64.wrap (((m + 1 : Nat) : Int) - 1) = (m : Int) := by rw [wrap_i64 (by omega) (by omega)]; omega
  have hp := pow_le m 20 (by omega)
  have e2 : IntKind.i64.wrap ((2 ^ m : Nat) : Int) = ((2 ^ m : Nat) : Int) := wrapn_i64 (by omega)
  have e : (2 : Int) ^ m = ((2 ^ m : Nat) : Int) := by simp
  unfold fitI
  rw [Nat.add_sub_cancel, e]
  revert e2 hp
  generalize 2 ^ m = p at *
  intro hp e2
  have e3 : IntKind.i64.wrap (0 - (p : Int)) = -(p : Int) := by rw [wrap_i64 (by omega) (by omega)]; omega
  have e4 : IntKind.i64.wrap ((p : Int) - 1) = (p : Int) - 1 := wrap_i64 (by omega) (by omega)
  (simp only [SQ, zm, AOp.opds, step, Opd.get, zk, bin, zc, IntKind.signed, zi, zj, zl, zb, unary, ze, zd, za, zo, zr, zh, zf, zg, zp, Cp.isFull, isNil, zq, simprocAttr, SQX, V.cells, show ¬ ((m + 1 : Nat) : Int) < 1 by omega, show ¬ (64 : Int) < ((m + 1 : Nat) : Int) by omega, show ¬ ((m + 1 : Nat) : Int) = 64 by omega, e1, zn (hP _ _), e2, e3, e4]; repeat' ((first | refine condQ_i ?_ ?_ | refine guardQ_t ?_ ?_ | refine guardQ_f ?_ ?_) <;> (intro hb; simp only [SQ, zm, AOp.opds, step, Opd.get, zk, bin, zc, IntKind.signed, zi, zj, zl, zb, unary, ze, zd, za, zo, zr, zh, zf, zg, zp, Cp.isFull, isNil, zq, simprocAttr, SQX, V.cells, hb, show ¬ ((m + 1 : Nat) : Int) < 1 by omega, show ¬ (64 : Int) < ((m + 1 : Nat) : Int) by omega, show ¬ ((m + 1 : Nat) : Int) = 64 by omega, e1, zn (hP _ _), e2, e3, e4])))
  all_goals (simp_all; try omega)
def immI (f n : Int) : Bool := if f = 1 then fitI n 20 else if f = 2 then fitI n 21 && decide (n.tmod 2 = 0) else if f = 4 then fitI n 13 && decide (n.tmod 2 = 0) else if f = 3 ∨ f = 5 then fitI n 12 else if f = 7 then decide (0 ≤ n) && decide (n ≤ 63) else if f = 8 then decide (0 ≤ n) && decide (n ≤ 31) else if f = 9 then decide (0 ≤ n) && decide (n ≤ 255) else decide (n = 0)
theorem isaImm_r {base : Nat} (f n : Int) (h : Heap) (h0 : -9223372036854775808 ≤ n) (h1 : n ≤ 9223372036854775807) : WpF S0 base k_isa_immediate [.sc (.int .i64 f), .sc (.int .i64 n)] h fun v h' => v = .bool (immI f n) ∧ h' = h := by
  have hi := fun base a b h => isaIn_r (base := base) n a b h
  have hf : ∀ (m : Nat), (m = 12 ∨ m = 13 ∨ m = 20 ∨ m = 21) → ∀ base h, WpF S0 base k_word_Fits [.sc (.int .i64 n), .sc (.int .i64 (m : Int))] h fun r h' => r = .bool (fitI n m) ∧ h' = h := fun m hm base h => wFits_r n m h h0 h1 hm
  have hf12 : ∀ base h, WpF S0 base k_word_Fits [.sc (.int .i64 n), .sc (.int .i64 12)] h fun r h' => r = .bool (fitI n 12) ∧ h' = h := fun base h => hf 12 (.inl rfl) base h
  have hf13 : ∀ base h, WpF S0 base k_word_Fits [.sc (.int .i64 n), .sc (.int .i64 13)] h fun r h' => r = .bool (fitI n 13) ∧ h' = h := fun base h => hf 13 (.inr (.inl rfl)) base h
  have hf20 : ∀ base h, WpF S0 base k_word_Fits [.sc (.int .i64 n), .sc (.int .i64 20)] h fun r h' => r = .bool (fitI n 20) ∧ h' = h := fun base h => hf 20 (.inr (.inr (.inl rfl))) base h
  have hf21 : ∀ base h, WpF S0 base k_word_Fits [.sc (.int .i64 n), .sc (.int .i64 21)] h fun r h' => r = .bool (fitI n 21) ∧ h' = h := fun base h => hf 21 (.inr (.inr (.inr rfl))) base h
  first | refine zu (A := f_isa_immediate) rfl rfl rfl rfl ?_ | refine zB (A := f_isa_immediate) rfl rfl rfl rfl ?_
  simp only [f_isa_immediate, oD, cD]
  (simp only [SQ, zm, AOp.opds, step, Opd.get, zk, bin, zc, IntKind.signed, zi, zj, zl, zb, unary, ze, zd, za, zo, zr, zh, zf, zg, zp, Cp.isFull, isNil, zq, simprocAttr, SQX, V.cells, zn (hi _ _ _ _), zn (hf12 _ _), zn (hf13 _ _), zn (hf20 _ _), zn (hf21 _ _)]; repeat' ((first | refine condQ_i ?_ ?_ | refine guardQ_t ?_ ?_ | refine guardQ_f ?_ ?_) <;> (intro hb; simp only [SQ, zm, AOp.opds, step, Opd.get, zk, bin, zc, IntKind.signed, zi, zj, zl, zb, unary, ze, zd, za, zo, zr, zh, zf, zg, zp, Cp.isFull, isNil, zq, simprocAttr, SQX, V.cells, hb, zn (hi _ _ _ _), zn (hf12 _ _), zn (hf13 _ _), zn (hf20 _ _), zn (hf21 _ _)])))
  all_goals (simp_all [immI, inI_tab]; try omega)
set_option maxHeartbeats 1000000 in
theorem imm3_r {base : Nat} (op n : Int) (h : Heap) : WpF S0 base k_spinnakerref03_immediate [.sc (.int .i64 op), .sc (.int .i64 n)] h fun v h' => v = .bool (immI (formI op) n) ∧ h' = h := by
  have hL : ∀ base h, WpF S0 base k_spinnakerref03_letter [.sc (.int .i64 op)] h fun v h' => v = .sc (.int .u8 (letB op)) ∧ h' = h := fun base h => letter_r op h
  have hf13 : ∀ base h, WpF S0 base k_spinnakerref01_Fits [.sc (.int .i64 n), .sc (.int .i64 13)] h fun r h' => r = .bool (fitI n 13) ∧ h' = h := fun base h => rFits_r n 13 h (.inr (.inl rfl))
  have hf21 : ∀ base h, WpF S0 base k_spinnakerref01_Fits [.sc (.int .i64 n), .sc (.int .i64 21)] h fun r h' => r = .bool (fitI n 21) ∧ h' = h := fun base h => rFits_r n 21 h (.inr (.inr (.inr rfl)))
  unfold formI
  generalize letB op = c at *
  first | refine zu (A := f_spinnakerref03_immediate) rfl rfl rfl rfl ?_ | refine zB (A := f_spinnakerref03_immediate) rfl rfl rfl rfl ?_
  simp only [f_spinnakerref03_immediate, oD, cD]
  (simp only [SQ, zm, AOp.opds, step, Opd.get, zk, bin, zc, IntKind.signed, zi, zj, zl, zb, unary, ze, zd, za, zo, zr, zh, zf, zg, zp, Cp.isFull, isNil, zq, simprocAttr, SQX, V.cells, zn (hL _ _), zn (hf13 _ _), zn (hf21 _ _)]; repeat' ((first | refine condQ_i ?_ ?_ | refine guardQ_t ?_ ?_ | refine guardQ_f ?_ ?_) <;> (intro hb; simp only [SQ, zm, AOp.opds, step, Opd.get, zk, bin, zc, IntKind.signed, zi, zj, zl, zb, unary, ze, zd, za, zo, zr, zh, zf, zg, zp, Cp.isFull, isNil, zq, simprocAttr, SQX, V.cells, hb, zn (hL _ _), zn (hf13 _ _), zn (hf21 _ _)])))
  all_goals (simp_all [immI, formL, fitI]; try omega)
  · intro q
    have : n = 4095 := by omega
    subst this
    decide
  · generalize hx : (if (c : Int) = 82 then (6 : Int) else if (c : Int) = 78 then 0 else if (c : Int) = 76 then 10 else if (c : Int) = 65 then 11 else -1) = x
    have : x = 6 ∨ x = 0 ∨ x = 10 ∨ x = 11 ∨ x = -1 := by
      rw [← hx]
      (repeat' split) <;> simp
    rcases this with rfl | rfl | rfl | rfl | rfl <;> simp
def mayI (op rd a b imm : Int) (aq rl : Bool) : Bool := decide (0 ≤ formI op) && regI rd (fRd (formI op)) && regI a (fA (formI op)) && regI b (fB (formI op)) && immI (formI op) imm && (fO (formI op) || !aq && !rl)
abbrev ins (op rd a b imm : Int) (aq rl : Bool) : V := .agg [.sc (.int .i64 op), .sc (.int .i64 rd), .sc (.int .i64 a), .sc (.int .i64 b), .sc (.int .i64 imm), .sc (.bool aq), .sc (.bool rl)]
theorem formL_neg (c : Int) : 0 ≤ formL c ∨ formL c = -1 := by unfold formL; (repeat' split) <;> omega
theorem letB_0 (op : Int) : letB op = 0 ↔ formI op = -1 := by
  unfold formI letB
  by_cases h : 1 ≤ op ∧ op ≤ 87
  · rw [if_pos h]
    obtain ⟨n, rfl⟩ : ∃ n : Nat, op = n + 1 := ⟨(op - 1).toNat, by omega⟩
    have : ∀ n : Nat, n < 87 → (letS.data.toList.getD n 0).toNat ≠ 0 ∧ formL (letS.data.toList.getD n 0).toNat ≠ -1 := by decide +kernel
    rw [show ((n : Int) + 1 - 1).toNat = n by omega]
    have := this n (by omega)
    exact ⟨fun q => absurd q this.1, fun q => absurd q this.2⟩
  · rw [if_neg h]
    exact ⟨fun _ => rfl, fun _ => rfl⟩
set_option maxHeartbeats 1000000 in
theorem isaMay_r {base : Nat} (op rd a b imm : Int) (aq rl : Bool) (h : Heap) (h0 : -9223372036854775808 ≤ imm) (h1 : imm ≤ 9223372036854775807) : WpF S0 base k_isa_May [ins op rd a b imm aq rl] h fun v h' => v = .bool (mayI op rd a b imm aq rl) ∧ h' = h := by
  have hF := fun base h => isaForm_r (base := base) op h
  have hf := fun base f h => isaFields_r (base := base) f h
  have hR := fun base r b h => isaReg_r (base := base) r b h
  have hI := fun base f h => isaImm_r (base := base) f imm h h0 h1
  unfold mayI
  first | refine zu (A := f_isa_May) rfl rfl rfl rfl ?_ | refine zB (A := f_isa_May) rfl rfl rfl rfl ?_
  simp only [f_isa_May, oD, cD]
  (simp only [SQ, zm, AOp.opds, step, Opd.get, zk, bin, zc, IntKind.signed, zi, zj, zl, zb, unary, ze, zd, za, zo, zr, zh, zf, zg, zp, Cp.isFull, isNil, zq, simprocAttr, SQX, V.cells, zn (hF _ _), zn (hf _ _ _), zn (hR _ _ _ _), zn (hI _ _ _)]; repeat' ((first | refine condQ_i ?_ ?_ | refine guardQ_t ?_ ?_ | refine guardQ_f ?_ ?_) <;> (intro hb; simp only [SQ, zm, AOp.opds, step, Opd.get, zk, bin, zc, IntKind.signed, zi, zj, zl, zb, unary, ze, zd, za, zo, zr, zh, zf, zg, zp, Cp.isFull, isNil, zq, simprocAttr, SQX, V.cells, hb, zn (hF _ _), zn (hf _ _ _), zn (hR _ _ _ _), zn (hI _ _ _)])))
  all_goals (simp_all [fO]; try omega)
set_option maxHeartbeats 1000000 in
theorem may3_r {base : Nat} (op rd a b imm : Int) (aq rl : Bool) (h : Heap) : WpF S0 base k_spinnakerref03_May [ins op rd a b imm aq rl] h fun v h' => v = .bool (mayI op rd a b imm aq rl) ∧ h' = h := by
  have hL : ∀ base h, WpF S0 base k_spinnakerref03_letter [.sc (.int .i64 op)] h fun v h' => v = .sc (.int .u8 (letB op)) ∧ h' = h := fun base h => letter_r op h
  have hR := fun base r b h => reg3_r (base := base) r b h
  have hI := fun base h => imm3_r (base := base) op imm h
  have h1 := fun base h => hasRd_r (base := base) op h
  have h2 := fun base h => hasA_r (base := base) op h
  have h3 := fun base h => hasB_r (base := base) op h
  have h4 : ∀ base h, WpF S0 base k_spinnakerref03_has [.sc (.int .i64 op), .sc (.string ⟨#[76, 65]⟩)] h fun v h' => v = .bool (fO (formI op)) ∧ h' = h := fun base h => (has_tab op).2.2.2 ▸ has3_r op ⟨#[76, 65]⟩ h (by decide)
  have hz := letB_0 op
  have hn := formL_neg (letB op)
  change 0 ≤ formI op ∨ formI op = -1 at hn
  unfold mayI
  first | refine zu (A := f_spinnakerref03_May) rfl rfl rfl rfl ?_ | refine zB (A := f_spinnakerref03_May) rfl rfl rfl rfl ?_
  simp only [f_spinnakerref03_May, oD, cD]
  (simp only [SQ, zm, AOp.opds, step, Opd.get, zk, bin, zc, IntKind.signed, zi, zj, zl, zb, unary, ze, zd, za, zo, zr, zh, zf, zg, zp, Cp.isFull, isNil, zq, simprocAttr, SQX, V.cells, zn (hL _ _), zn (hR _ _ _ _), zn (hI _ _), zn (h1 _ _), zn (h2 _ _), zn (h3 _ _), zn (h4 _ _)]; repeat' ((first | refine condQ_i ?_ ?_ | refine guardQ_t ?_ ?_ | refine guardQ_f ?_ ?_) <;> (intro hb; simp only [SQ, zm, AOp.opds, step, Opd.get, zk, bin, zc, IntKind.signed, zi, zj, zl, zb, unary, ze, zd, za, zo, zr, zh, zf, zg, zp, Cp.isFull, isNil, zq, simprocAttr, SQX, V.cells, hb, zn (hL _ _), zn (hR _ _ _ _), zn (hI _ _), zn (h1 _ _), zn (h2 _ _), zn (h3 _ _), zn (h4 _ _)])))
  all_goals (simp_all; try omega)
end
section
abbrev nv (n : Int) : List V := [.sc (.int .i64 n)]
theorem nv_ground (l : List Int) : ((l.map nv).all fun r => r.all ground) = true := by
  rw [List.all_eq_true]
  intro r hr
  obtain ⟨n, _, rfl⟩ := List.mem_map.1 hr
  rfl
def pickI (f n : Int) (l : List Int) : Int := match l.findIdx? (· == n) with
  | some i => f + i
  | none => 0
theorem findIdx_hit {l : List Int} {n : Int} {i : Nat} (hi : i < l.length) (h : l[i] = n) (hno : (l.take i).any (· == n) = false) : l.findIdx? (· == n) = some i := by
  rw [List.findIdx?_eq_some_iff_getElem]
  refine ⟨hi, by simpa using h, fun j hj q => ?_⟩
  have hj' : j < (l.take i).length := by rw [List.length_take]; omega
  have := List.any_eq_false.1 hno (l.take i)[j] (List.getElem_mem hj')
  rw [List.getElem_take] at this
  exact this q
theorem pick_r {base : Nat} (f n : Int) (l : List Int) (h : Heap) (hf : 0 ≤ f) (hf2 : f < 1000) (hl : l.length < 1000) : WpF S0 base k_dec_pick [.sc (.int .i64 f), .sc (.int .i64 n), .slc .lit 1 (l.map nv)] h fun v h' => v = .sc (.int .i64 (pickI f n l)) ∧ h' = h := by
  first | refine zu (A := f_dec_pick) rfl rfl rfl rfl ?_ | refine zB (A := f_dec_pick) rfl rfl rfl rfl ?_
  simp only [f_dec_pick, oD, cD]
  simp only [SQ, SQB, zm, AOp.opds, step, Opd.get, zk, bin, zc, IntKind.signed, zi, zj, zl, zb, unary, ze, zd, za, zo, zr, zh, zf, zg, zp, Cp.isFull, isNil, zq, simprocAttr, -List.reduceReplicate, ]
  refine WpC_loopI (fun k en h' => ∃ i : Nat, k = l.length - i ∧ i ≤ l.length ∧ en 11 = V.int i ∧ en 10 = V.int l.length ∧ en 9 = .slc .lit 1 (l.map nv) ∧ en 0 = .sc (.int .i64 f) ∧ en 1 = .sc (.int .i64 n) ∧ (l.take i).any (· == n) = false ∧ h' = h) l.length ⟨0, rfl, Nat.zero_le _, rfl, rfl, rfl, rfl, rfl, rfl, rfl⟩ ?_
  rintro k en h' ⟨i, rfl, hi, e11, e10, e9, e0, e1, hno, rfl⟩
  by_cases h1 : i < l.length
  · have hg' : (l.map nv)[i]? = some (nv l[i]) := by simp [List.getElem?_map, h1]
    have htk : l.take (i + 1) = l.take i ++ [l[i]] := by rw [List.take_add_one, List.getElem?_eq_getElem h1]; rfl
    by_cases h2 : l[i] = n
    · have e : IntKind.i64.wrap (f + (i : Int)) = f + i := wrap_i64 (by omega) (by omega)
      simp only [SQ, SQB, zm, AOp.opds, step, Opd.get, zk, bin, zc, IntKind.signed, zi, zj, zl, zb, unary, ze, zd, za, zo, zr, zh, zf, zg, zp, Cp.isFull, isNil, zq, simprocAttr, -List.reduceReplicate, e11, e10, e9, e0, e1, h1, hg', List.getElem?_cons_zero, h2, e]
      unfold pickI
      rw [findIdx_hit h1 h2 hno]
    · simp only [SQ, SQB, zm, AOp.opds, step, Opd.get, zk, bin, zc, IntKind.signed, zi, zj, zl, zb, unary, ze, zd, za, zo, zr, zh, zf, zg, zp, Cp.isFull, isNil, zq, simprocAttr, -List.reduceReplicate, e11, e10, e9, e0, e1, h1, hg', List.getElem?_cons_zero, h2]
      exact ⟨l.length - (i + 1), by omega, i + 1, rfl, by omega, by rw [wrap_i64 (by omega) (by omega)]; rfl, by have hno' : ((l.take i).any fun x => decide (x = n)) = false := hno; rw [htk, List.any_append, hno']; simp [h2]⟩
  · have : l.take i = l := List.take_of_length_le (by omega)
    rw [this] at hno
    simp only [SQ, SQB, zm, AOp.opds, step, Opd.get, zk, bin, zc, IntKind.signed, zi, zj, zl, zb, unary, ze, zd, za, zo, zr, zh, zf, zg, zp, Cp.isFull, isNil, zq, simprocAttr, -List.reduceReplicate, e11, e10, e9, e0, e1, h1]
    unfold pickI
    have : l.findIdx? (· == n) = none := by
      rw [List.findIdx?_eq_none_iff]
      intro x hx
      simpa using List.any_eq_false.1 hno x hx
    rw [this]
theorem wrapF (w a n : Nat) (hn : n ≤ 32) : IntKind.i64.wrap ((F w a n : Nat) : Int) = (F w a n : Nat) := by
  have h1 := F_lt w a n
  have h2 := pow_le n 32 hn
  exact wrapn_i64 (by omega)
theorem sys_fill : zv 1 (List.replicate 2 [(.sc (.int .i64 (0)))]) [(0, (.sc (.int .i64 (0)))), (1, (.sc (.int .i64 (8192))))] = some (([0, 8192] : List Int).map nv) := rfl
theorem sys_r {base : Nat} (w : Nat) (h : Heap) (hw : w < 2 ^ 32) : WpF S0 base k_dec_system [U32 w] h fun v h' => v = .sc (.int .i64 (pickI 64 ((w / 128 : Nat) : Int) [0, 8192])) ∧ h' = h := by
  first | refine zu (A := f_dec_system) rfl rfl rfl rfl ?_ | refine zB (A := f_dec_system) rfl rfl rfl rfl ?_
  simp only [f_dec_system, oD, cD]
  have e1 : (w : Int).fdiv (2 ^ min 7 IntKind.u32.bits) = ((w / 128 : Nat) : Int) := fdivN w 7
  have e2 : IntKind.i64.wrap ((w / 128 : Nat) : Int) = ((w / 128 : Nat) : Int) := wrapn_i64 (by omega)
  simp only [SQ, SQB, zm, AOp.opds, step, Opd.get, zk, bin, zc, IntKind.signed, zi, zj, zl, zb, unary, ze, zd, za, zo, zr, zh, zf, zg, zp, Cp.isFull, isNil, zq, simprocAttr, -List.reduceReplicate, getParts2, sys_fill, nv_ground, e1, e2, zn (pick_r 64 ((w / 128 : Nat) : Int) [0, 8192] _ (by decide) (by decide) (by decide))]
abbrev arr (l : List Int) : V := .agg (l.map fun n => .sc (.int .i64 n))
theorem arr_at (l : List Int) (i : Nat) (hi : i < l.length) : (l.map fun n => V.sc (.int .i64 n))[i]? = some (.sc (.int .i64 (l.getD i 0))) := by
  rw [List.getElem?_map, List.getElem?_eq_getElem hi, List.getD_eq_getElem?_getD, List.getElem?_eq_getElem hi]; rfl
theorem arr_ground (l : List Int) : (l.map fun n => V.sc (.int .i64 n)).all ground = true := by
  rw [List.all_eq_true]
  intro r hr
  obtain ⟨n, _, rfl⟩ := List.mem_map.1 hr
  rfl
theorem arith_r {base : Nat} (f : Nat) (p r : List Int) (b : Bool) (h : Heap) (hf : f < 8) (hp : p.length = 8) (hr : r.length = 8) : WpF S0 base k_dec_arith [V.int f, arr p, arr r, .sc (.bool b)] h fun v h' => v = .sc (.int .i64 ((if b then r else p).getD f 0)) ∧ h' = h := by
  first | refine zu (A := f_dec_arith) rfl rfl rfl rfl ?_ | refine zB (A := f_dec_arith) rfl rfl rfl rfl ?_
  simp only [f_dec_arith, oD, cD]
  cases b
  · simp only [SQ, SQB, zm, AOp.opds, step, Opd.get, zk, bin, zc, IntKind.signed, zi, zj, zl, zb, unary, ze, zd, za, zo, zr, zh, zf, zg, zp, Cp.isFull, isNil, zq, simprocAttr, -List.reduceReplicate, SQX, V.cells, arr_ground, arr_at p f (by omega), Nat.mul_one, show (f : Int) < 8 by omega, show f < 8 by omega]
  · simp only [SQ, SQB, zm, AOp.opds, step, Opd.get, zk, bin, zc, IntKind.signed, zi, zj, zl, zb, unary, ze, zd, za, zo, zr, zh, zf, zg, zp, Cp.isFull, isNil, zq, simprocAttr, -List.reduceReplicate, SQX, V.cells, arr_ground, arr_at r f (by omega), Nat.mul_one, show (f : Int) < 8 by omega, show f < 8 by omega]
abbrev ar (l : List Int) : Option (List V) := some (l.map fun n => .sc (.int .i64 n))
theorem whole_f0 : fillParts [(.sc (.int .i64 (0))), (.sc (.int .i64 (0))), (.sc (.int .i64 (0))), (.sc (.int .i64 (0))), (.sc (.int .i64 (0))), (.sc (.int .i64 (0))), (.sc (.int .i64 (0))), (.sc (.int .i64 (0)))] [(0, 1, (.sc (.int .i64 (35)))), (1, 1, (.sc (.int .i64 (37)))), (2, 1, (.sc (.int .i64 (38)))), (3, 1, (.sc (.int .i64 (39)))), (4, 1, (.sc (.int .i64 (40)))), (5, 1, (.sc (.int .i64 (41)))), (6, 1, (.sc (.int .i64 (43)))), (7, 1, (.sc (.int .i64 (44))))] = ar [35, 37, 38, 39, 40, 41, 43, 44] := rfl
theorem whole_f1 : fillParts [(.sc (.int .i64 (0))), (.sc (.int .i64 (0))), (.sc (.int .i64 (0))), (.sc (.int .i64 (0))), (.sc (.int .i64 (0))), (.sc (.int .i64 (0))), (.sc (.int .i64 (0))), (.sc (.int .i64 (0)))] [(0, 1, (.sc (.int .i64 (36)))), (5, 1, (.sc (.int .i64 (42))))] = ar [36, 0, 0, 0, 0, 42, 0, 0] := rfl
theorem whole_r {base : Nat} (f g : Nat) (h : Heap) (hf : f < 8) (hg : g < 128) : WpF S0 base k_dec_whole [V.int f, V.int g] h fun v h' => v = .sc (.int .i64 (if g = 0 then [35, 37, 38, 39, 40, 41, 43, 44].getD f 0 else if g = 32 then [36, 0, 0, 0, 0, 42, 0, 0].getD f 0 else if g = 1 then 50 + f else 0)) ∧ h' = h := by
  have ha := fun base b h => arith_r (base := base) f [35, 37, 38, 39, 40, 41, 43, 44] [36, 0, 0, 0, 0, 42, 0, 0] b h hf rfl rfl
  have e : IntKind.i64.wrap (50 + (f : Int)) = 50 + f := wrap_i64 (by omega) (by omega)
  first | refine zu (A := f_dec_whole) rfl rfl rfl rfl ?_ | refine zB (A := f_dec_whole) rfl rfl rfl rfl ?_
  simp only [f_dec_whole, oD, cD]
  (simp only [SQ, zm, AOp.opds, step, Opd.get, zk, bin, zc, IntKind.signed, zi, zj, zl, zb, unary, ze, zd, za, zo, zr, zh, zf, zg, zp, Cp.isFull, isNil, zq, simprocAttr, -List.reduceReplicate, SQX, V.cells, getParts, whole_f0, whole_f1, zn (ha _ _ _), e]; repeat' ((first | refine condQ_i ?_ ?_ | refine guardQ_t ?_ ?_ | refine guardQ_f ?_ ?_) <;> (intro hb; simp only [SQ, zm, AOp.opds, step, Opd.get, zk, bin, zc, IntKind.signed, zi, zj, zl, zb, unary, ze, zd, za, zo, zr, zh, zf, zg, zp, Cp.isFull, isNil, zq, simprocAttr, -List.reduceReplicate, SQX, V.cells, hb, getParts, whole_f0, whole_f1, zn (ha _ _ _), e])))
  all_goals (simp_all; try omega)
theorem small_f0 : fillParts [(.sc (.int .i64 (0))), (.sc (.int .i64 (0))), (.sc (.int .i64 (0))), (.sc (.int .i64 (0))), (.sc (.int .i64 (0))), (.sc (.int .i64 (0))), (.sc (.int .i64 (0))), (.sc (.int .i64 (0)))] [(1, 1, (.sc (.int .i64 (32)))), (5, 1, (.sc (.int .i64 (33))))] = ar [0, 32, 0, 0, 0, 33, 0, 0] := rfl
theorem small_f1 : fillParts [(.sc (.int .i64 (0))), (.sc (.int .i64 (0))), (.sc (.int .i64 (0))), (.sc (.int .i64 (0))), (.sc (.int .i64 (0))), (.sc (.int .i64 (0))), (.sc (.int .i64 (0))), (.sc (.int .i64 (0)))] [(5, 1, (.sc (.int .i64 (34))))] = ar [0, 0, 0, 0, 0, 34, 0, 0] := rfl
def smallI (f g : Nat) : Int := if f = 0 then 31 else if g = 0 then [0, 32, 0, 0, 0, 33, 0, 0].getD f 0 else if g = 32 then [0, 0, 0, 0, 0, 34, 0, 0].getD f 0 else 0
theorem small_r {base : Nat} (f g : Nat) (h : Heap) (hf : f < 8) : WpF S0 base k_dec_small [V.int f, V.int g] h fun v h' => v = .sc (.int .i64 (smallI f g)) ∧ h' = h := by
  have ha := fun base b h => arith_r (base := base) f [0, 32, 0, 0, 0, 33, 0, 0] [0, 0, 0, 0, 0, 34, 0, 0] b h hf rfl rfl
  unfold smallI
  first | refine zu (A := f_dec_small) rfl rfl rfl rfl ?_ | refine zB (A := f_dec_small) rfl rfl rfl rfl ?_
  simp only [f_dec_small, oD, cD]
  (simp only [SQ, zm, AOp.opds, step, Opd.get, zk, bin, zc, IntKind.signed, zi, zj, zl, zb, unary, ze, zd, za, zo, zr, zh, zf, zg, zp, Cp.isFull, isNil, zq, simprocAttr, -List.reduceReplicate, SQX, V.cells, getParts, small_f0, small_f1, zn (ha _ _ _)]; repeat' ((first | refine condQ_i ?_ ?_ | refine guardQ_t ?_ ?_ | refine guardQ_f ?_ ?_) <;> (intro hb; simp only [SQ, zm, AOp.opds, step, Opd.get, zk, bin, zc, IntKind.signed, zi, zj, zl, zb, unary, ze, zd, za, zo, zr, zh, zf, zg, zp, Cp.isFull, isNil, zq, simprocAttr, -List.reduceReplicate, SQX, V.cells, hb, getParts, small_f0, small_f1, zn (ha _ _ _)])))
  all_goals (simp_all; try omega)
theorem half_f0 : fillParts [(.sc (.int .i64 (0))), (.sc (.int .i64 (0))), (.sc (.int .i64 (0))), (.sc (.int .i64 (0))), (.sc (.int .i64 (0))), (.sc (.int .i64 (0))), (.sc (.int .i64 (0))), (.sc (.int .i64 (0)))] [(0, 1, (.sc (.int .i64 (45)))), (1, 1, (.sc (.int .i64 (47)))), (5, 1, (.sc (.int .i64 (48))))] = ar [45, 47, 0, 0, 0, 48, 0, 0] := rfl
theorem half_f1 : fillParts [(.sc (.int .i64 (0))), (.sc (.int .i64 (0))), (.sc (.int .i64 (0))), (.sc (.int .i64 (0))), (.sc (.int .i64 (0))), (.sc (.int .i64 (0))), (.sc (.int .i64 (0))), (.sc (.int .i64 (0)))] [(0, 1, (.sc (.int .i64 (46)))), (5, 1, (.sc (.int .i64 (49))))] = ar [46, 0, 0, 0, 0, 49, 0, 0] := rfl
theorem half_f2 : zv 1 (List.replicate 5 [(.sc (.int .i64 (0)))]) [(0, (.sc (.int .i64 (0)))), (1, (.sc (.int .i64 (4)))), (2, (.sc (.int .i64 (5)))), (3, (.sc (.int .i64 (6)))), (4, (.sc (.int .i64 (7))))] = some (([0, 4, 5, 6, 7] : List Int).map nv) := rfl
def halfI (f g : Nat) : Int := if g = 0 then [45, 47, 0, 0, 0, 48, 0, 0].getD f 0 else if g = 32 then [46, 0, 0, 0, 0, 49, 0, 0].getD f 0 else if g = 1 then pickI 58 f [0, 4, 5, 6, 7] else 0
theorem half_r {base : Nat} (f g : Nat) (h : Heap) (hf : f < 8) : WpF S0 base k_dec_half [V.int f, V.int g] h fun v h' => v = .sc (.int .i64 (halfI f g)) ∧ h' = h := by
  have ha := fun base b h => arith_r (base := base) f [45, 47, 0, 0, 0, 48, 0, 0] [46, 0, 0, 0, 0, 49, 0, 0] b h hf rfl rfl
  have hp := fun base h => pick_r (base := base) 58 f [0, 4, 5, 6, 7] h (by decide) (by decide) (by decide)
  unfold halfI
  first | refine zu (A := f_dec_half) rfl rfl rfl rfl ?_ | refine zB (A := f_dec_half) rfl rfl rfl rfl ?_
  simp only [f_dec_half, oD, cD]
  (simp only [SQ, zm, AOp.opds, step, Opd.get, zk, bin, zc, IntKind.signed, zi, zj, zl, zb, unary, ze, zd, za, zo, zr, zh, zf, zg, zp, Cp.isFull, isNil, zq, simprocAttr, -List.reduceReplicate, SQX, V.cells, getParts, getParts2, half_f0, half_f1, half_f2, nv_ground, zn (ha _ _ _), zn (hp _ _)]; repeat' ((first | refine condQ_i ?_ ?_ | refine guardQ_t ?_ ?_ | refine guardQ_f ?_ ?_) <;> (intro hb; simp only [SQ, zm, AOp.opds, step, Opd.get, zk, bin, zc, IntKind.signed, zi, zj, zl, zb, unary, ze, zd, za, zo, zr, zh, zf, zg, zp, Cp.isFull, isNil, zq, simprocAttr, -List.reduceReplicate, SQX, V.cells, hb, getParts, getParts2, half_f0, half_f1, half_f2, nv_ground, zn (ha _ _ _), zn (hp _ _)])))
  all_goals (simp_all; try omega)
theorem imms_f0 : fillParts [(.sc (.int .i64 (0))), (.sc (.int .i64 (0))), (.sc (.int .i64 (0))), (.sc (.int .i64 (0))), (.sc (.int .i64 (0))), (.sc (.int .i64 (0))), (.sc (.int .i64 (0))), (.sc (.int .i64 (0)))] [(0, 1, (.sc (.int .i64 (22)))), (1, 1, (.sc (.int .i64 (28)))), (2, 1, (.sc (.int .i64 (23)))), (3, 1, (.sc (.int .i64 (24)))), (4, 1, (.sc (.int .i64 (25)))), (5, 1, (.sc (.int .i64 (29)))), (6, 1, (.sc (.int .i64 (26)))), (7, 1, (.sc (.int .i64 (27))))] = ar [22, 28, 23, 24, 25, 29, 26, 27] := rfl
theorem imms_f1 : fillParts [(.sc (.int .i64 (0))), (.sc (.int .i64 (0))), (.sc (.int .i64 (0))), (.sc (.int .i64 (0))), (.sc (.int .i64 (0))), (.sc (.int .i64 (0))), (.sc (.int .i64 (0))), (.sc (.int .i64 (0)))] [(5, 1, (.sc (.int .i64 (30))))] = ar [0, 0, 0, 0, 0, 30, 0, 0] := rfl
def immsI (t f : Nat) : Int := if f ≠ 1 ∧ f ≠ 5 then [22, 28, 23, 24, 25, 29, 26, 27].getD f 0 else if t = 0 then [22, 28, 23, 24, 25, 29, 26, 27].getD f 0 else if t = 16 then [0, 0, 0, 0, 0, 30, 0, 0].getD f 0 else 0
theorem chunk1 (l : List V) : chunk 1 l = l.map fun x => [x] := by
  apply List.ext_getElem
  · simp [chunk]
  · intro i h1 h2
    have : i < l.length := by simpa using h2
    simp only [chunk, List.getElem_map, List.getElem_range, Nat.mul_one]
    rw [List.drop_eq_getElem_cons this]
    rfl
theorem flat1 (l : List V) : (l.map fun x => [x]).flatten = l := by
  induction l with
  | nil => rfl
  | cons x r ih => simp only [List.map_cons, List.flatten_cons, ih]; rfl
theorem at_new {h : Heap} {x : Obj} : (h ++ [x])[h.length]? = some x := by rw [List.getElem?_append_right (Nat.le_refl _), Nat.sub_self]; rfl
theorem set_new {h : Heap} {x y : Obj} : (h ++ [x]).set h.length y = h ++ [y] := by rw [List.set_append_right _ _ (Nat.le_refl _), Nat.sub_self]; rfl
theorem putAllW {zs l : List V} (h : l.length = zs.length) : putCells zs 0 l = l := by
  simp [putCells, h]
theorem arr_store {h : Heap} {t : TypeId} {zs l : List V} {n : Nat} (hz : zs.length = n) (hl : l.length = n) (hn : 1 < n) (ho : l.all zm = true) : storeV h.length (h ++ [.row t 1 0 (chunk 1 zs)]) n (.rptr h.length 0 0 0) (.agg l) = some (h ++ [.row t 1 0 (l.map fun x => [x])]) := by
  unfold storeV
  obtain ⟨z, r, rfl⟩ : ∃ z r, zs = z :: r := by
    cases zs with
    | nil => simp at hz; omega
    | cons z r => exact ⟨z, r, rfl⟩
  have e1 : ¬ (0 + n ≤ 0 + 1 ∧ mayStore h.length h.length l = true) := by omega
  have e2 : mayStore h.length h.length l = true := by simp [mayStore]
  rw [if_pos ⟨hl, ho⟩]
  simp only [at_new, chunk1, List.map_cons, List.getElem?_cons_zero, V.cells, List.length_cons, List.length_nil]
  rw [if_pos trivial, if_neg e1, if_pos ⟨trivial, by rw [← List.map_cons (f := fun x => [x]), flat1]; omega, e2⟩, set_new, ← List.map_cons (f := fun x => [x]), flat1, putAllW (by omega)]
theorem arr_load {h : Heap} {t : TypeId} {l : List Int} {i : Nat} (hi : i < l.length) : zl (h ++ [.row t 1 0 ((l.map fun n => V.sc (.int .i64 n)).map fun x => [x])]) none (.rptr h.length 0 0 i) = some (.sc (.int .i64 (l.getD i 0))) := by
  have e0 : ((l.map fun n => V.sc (.int .i64 n)).map fun x => [x])[0]? = some [.sc (.int .i64 l[0])] := by
    rw [List.getElem?_map, List.getElem?_map, List.getElem?_eq_getElem (by omega)]; rfl
  simp only [zl, rowAt, at_new, if_true, e0, Option.bind_some, Option.getD_none, List.length_cons, List.length_nil, flat1, zb]
  by_cases h0 : i = 0
  · subst h0
    rw [if_pos (Nat.le_refl _), List.getD_eq_getElem?_getD, List.getElem?_eq_getElem hi]; rfl
  · rw [if_neg (by omega), arr_at l i hi]
theorem arr_loads {h : Heap} {t : TypeId} {l : List Int} {n : Nat} (hl : l.length = n) (hn : 1 < n) : zl (h ++ [.row t 1 0 ((l.map fun n => V.sc (.int .i64 n)).map fun x => [x])]) (some n) (.rptr h.length 0 0 0) = some (arr l) := by
  have e0 : ((l.map fun n => V.sc (.int .i64 n)).map fun x => [x])[0]? = some [.sc (.int .i64 l[0])] := by
    rw [List.getElem?_map, List.getElem?_map, List.getElem?_eq_getElem (by omega)]; rfl
  have e2 : 0 + n ≤ (l.map fun n => V.sc (.int .i64 n)).length := by rw [List.length_map]; omega
  simp only [zl, rowAt, at_new, if_true, e0, Option.bind_some, Option.getD_some, List.length_cons, List.length_nil, flat1, zb, List.drop_zero]
  rw [if_neg (by omega), if_pos e2, List.take_of_length_le (by rw [List.length_map]; omega)]
theorem imms_r {base : Nat} (w f : Nat) (h : Heap) (hw : w < 2 ^ 32) (hf : f < 8) : WpF S0 base k_dec_immediates [U32 w, V.int f] h fun v h' => v = .sc (.int .i64 (immsI (F w 26 6) f)) ∧ h' = h := by
  have ha := fun base b h => arith_r (base := base) f [22, 28, 23, 24, 25, 29, 26, 27] [0, 0, 0, 0, 0, 30, 0, 0] b h hf rfl rfl
  have hd : ∀ base h, WpF S0 base k_dec_field [U32 w, .sc (.int .i64 26), .sc (.int .i64 6)] h fun v h' => v = V.int (F w 26 6) ∧ h' = h := fun base h => dfield_r w 26 6 h hw (by decide) (by decide)
  unfold immsI
  first | refine zu (A := f_dec_immediates) rfl rfl rfl rfl ?_ | refine zB (A := f_dec_immediates) rfl rfl rfl rfl ?_
  simp only [f_dec_immediates, oD, cD]
  obtain ⟨R, es, el, el2⟩ : ∃ R, storeV h.length (h ++ [.row 136 1 0 (chunk 1 [.sc (.int .i64 0), .sc (.int .i64 0), .sc (.int .i64 0), .sc (.int .i64 0), .sc (.int .i64 0), .sc (.int .i64 0), .sc (.int .i64 0), .sc (.int .i64 0)])]) 8 (.rptr h.length 0 0 0) (arr [22, 28, 23, 24, 25, 29, 26, 27]) = some (h ++ [.row 136 1 0 R]) ∧ zl (h ++ [.row 136 1 0 R]) none (.rptr h.length 0 0 f) = some (.sc (.int .i64 ([22, 28, 23, 24, 25, 29, 26, 27].getD f 0))) ∧ zl (h ++ [.row 136 1 0 R]) (some 8) (.rptr h.length 0 0 0) = some (arr [22, 28, 23, 24, 25, 29, 26, 27]) := ⟨_, arr_store (n := 8) (zs := [.sc (.int .i64 0), .sc (.int .i64 0), .sc (.int .i64 0), .sc (.int .i64 0), .sc (.int .i64 0), .sc (.int .i64 0), .sc (.int .i64 0), .sc (.int .i64 0)]) (l := [22, 28, 23, 24, 25, 29, 26, 27].map fun n => V.sc (.int .i64 n)) rfl rfl (by decide) rfl, arr_load (l := [22, 28, 23, 24, 25, 29, 26, 27]) hf, arr_loads (l := [22, 28, 23, 24, 25, 29, 26, 27]) rfl (by decide)⟩
  have hf1 : (f : Int) < 8 := by omega
  (simp only [SQ, zm, AOp.opds, step, Opd.get, zk, bin, zc, IntKind.signed, zi, zj, zb, unary, ze, zd, za, zo, zr, zh, zf, zg, zp, Cp.isFull, isNil, zq, simprocAttr, -List.reduceReplicate, SQX, V.cells, getParts, imms_f0, imms_f1, zn (hd _ _), es, el, el2, hf, hf1, Nat.mul_one, zn (ha _ _ _)]; repeat' ((first | refine condQ_i ?_ ?_ | refine guardQ_t ?_ ?_ | refine guardQ_f ?_ ?_) <;> (intro hb; simp only [SQ, zm, AOp.opds, step, Opd.get, zk, bin, zc, IntKind.signed, zi, zj, zb, unary, ze, zd, za, zo, zr, zh, zf, zg, zp, Cp.isFull, isNil, zq, simprocAttr, -List.reduceReplicate, SQX, V.cells, hb, getParts, imms_f0, imms_f1, zn (hd _ _), es, el, el2, hf, hf1, Nat.mul_one, zn (ha _ _ _)])))
  all_goals (simp_all; try omega)
end
section
theorem atom_fill : zv 1 (List.replicate 11 [(.sc (.int .i64 (0)))]) [(0, (.sc (.int .i64 (2)))), (1, (.sc (.int .i64 (3)))), (2, (.sc (.int .i64 (1)))), (3, (.sc (.int .i64 (0)))), (4, (.sc (.int .i64 (4)))), (5, (.sc (.int .i64 (12)))), (6, (.sc (.int .i64 (8)))), (7, (.sc (.int .i64 (16)))), (8, (.sc (.int .i64 (20)))), (9, (.sc (.int .i64 (24)))), (10, (.sc (.int .i64 (28))))] = some (([2, 3, 1, 0, 4, 12, 8, 16, 20, 24, 28] : List Int).map nv) := rfl
def atomI (f t : Nat) : Int := if pickI 0 t [2, 3, 1, 0, 4, 12, 8, 16, 20, 24, 28] = 0 ∧ t ≠ 2 then 0 else if f = 2 then 66 + pickI 0 t [2, 3, 1, 0, 4, 12, 8, 16, 20, 24, 28] else if f = 3 then 77 + pickI 0 t [2, 3, 1, 0, 4, 12, 8, 16, 20, 24, 28] else 0
theorem pickI_bnd (f n : Int) (l : List Int) (hf : 0 ≤ f) : 0 ≤ pickI f n l ∧ pickI f n l ≤ f + l.length := by
  unfold pickI
  split
  · rename_i i hi
    have := (List.findIdx?_eq_some_iff_getElem.1 hi).1
    omega
  · omega
theorem atom_r {base : Nat} (w f : Nat) (h : Heap) (hw : w < 2 ^ 32) : WpF S0 base k_dec_atomic [U32 w, V.int f] h fun v h' => v = .sc (.int .i64 (atomI f (F w 27 5))) ∧ h' = h := by
  have hd : ∀ base h, WpF S0 base k_dec_field [U32 w, .sc (.int .i64 27), .sc (.int .i64 5)] h fun v h' => v = V.int (F w 27 5) ∧ h' = h := fun base h => dfield_r w 27 5 h hw (by decide) (by decide)
  have hp := fun base h => pick_r (base := base) 0 (F w 27 5 : Nat) [2, 3, 1, 0, 4, 12, 8, 16, 20, 24, 28] h (by decide) (by decide) (by decide)
  have hb1 := pickI_bnd 0 (F w 27 5 : Nat) [2, 3, 1, 0, 4, 12, 8, 16, 20, 24, 28] (by decide)
  unfold atomI
  revert hp hb1
  generalize pickI 0 (F w 27 5 : Nat) [2, 3, 1, 0, 4, 12, 8, 16, 20, 24, 28] = p at *
  intro hp hb1
  have e1 : IntKind.i64.wrap (66 + p) = 66 + p := wrap_i64 (by omega) (by simp only [List.length_cons, List.length_nil] at hb1; omega)
  have e2 : IntKind.i64.wrap (77 + p) = 77 + p := wrap_i64 (by omega) (by simp only [List.length_cons, List.length_nil] at hb1; omega)
  clear hb1
  first | refine zu (A := f_dec_atomic) rfl rfl rfl rfl ?_ | refine zB (A := f_dec_atomic) rfl rfl rfl rfl ?_
  simp only [f_dec_atomic, oD, cD]
  (simp only [SQ, zm, AOp.opds, step, Opd.get, zk, bin, zc, IntKind.signed, zi, zj, zl, zb, unary, ze, zd, za, zo, zr, zh, zf, zg, zp, Cp.isFull, isNil, zq, simprocAttr, -List.reduceReplicate, SQX, V.cells, getParts2, atom_fill, nv_ground, zn (hd _ _), zn (hp _ _), e1, e2]; repeat' ((first | refine condQ_i ?_ ?_ | refine guardQ_t ?_ ?_ | refine guardQ_f ?_ ?_) <;> (intro hb; simp only [SQ, zm, AOp.opds, step, Opd.get, zk, bin, zc, IntKind.signed, zi, zj, zl, zb, unary, ze, zd, za, zo, zr, zh, zf, zg, zp, Cp.isFull, isNil, zq, simprocAttr, -List.reduceReplicate, SQX, V.cells, hb, getParts2, atom_fill, nv_ground, zn (hd _ _), zn (hp _ _), e1, e2])))
  all_goals (simp_all; try omega)
def opF (o f g w7 : Nat) : Int :=
  if (o : Int) = 55 then 1 else if (o : Int) = 23 then 2 else if (o : Int) = 111 then 3 else if (o : Int) = 103 then pickI 4 f [0] else if (o : Int) = 99 then pickI 5 f [0, 1, 4, 5, 6, 7] else if (o : Int) = 3 then pickI 11 f [0, 1, 2, 3, 4, 5, 6] else if (o : Int) = 35 then pickI 18 f [0, 1, 2, 3] else if (o : Int) = 19 then immsI (g / 2) f else if (o : Int) = 27 then smallI f g else if (o : Int) = 51 then (if g = 0 then [35, 37, 38, 39, 40, 41, 43, 44].getD f 0 else if g = 32 then [36, 0, 0, 0, 0, 42, 0, 0].getD f 0 else if g = 1 then 50 + f else 0) else if (o : Int) = 59 then halfI f g else if (o : Int) = 47 then atomI f (g / 4) else if (o : Int) = 115 then pickI 64 w7 [0, 8192] else if (o : Int) = 15 then pickI 63 f [0] else 0
def opN (w : Nat) : Int := opF (F w 0 7) (F w 12 3) (F w 25 7) (w / 128)
theorem op_f0 : zv 1 (List.replicate 1 [(.sc (.int .i64 (0)))]) [(0, (.sc (.int .i64 (0))))] = some (([0] : List Int).map nv) := rfl
theorem op_f1 : zv 1 (List.replicate 6 [(.sc (.int .i64 (0)))]) [(0, (.sc (.int .i64 (0)))), (1, (.sc (.int .i64 (1)))), (2, (.sc (.int .i64 (4)))), (3, (.sc (.int .i64 (5)))), (4, (.sc (.int .i64 (6)))), (5, (.sc (.int .i64 (7))))] = some (([0, 1, 4, 5, 6, 7] : List Int).map nv) := rfl
theorem op_f2 : zv 1 (List.replicate 7 [(.sc (.int .i64 (0)))]) [(0, (.sc (.int .i64 (0)))), (1, (.sc (.int .i64 (1)))), (2, (.sc (.int .i64 (2)))), (3, (.sc (.int .i64 (3)))), (4, (.sc (.int .i64 (4)))), (5, (.sc (.int .i64 (5)))), (6, (.sc (.int .i64 (6))))] = some (([0, 1, 2, 3, 4, 5, 6] : List Int).map nv) := rfl
theorem op_f3 : zv 1 (List.replicate 4 [(.sc (.int .i64 (0)))]) [(0, (.sc (.int .i64 (0)))), (1, (.sc (.int .i64 (1)))), (2, (.sc (.int .i64 (2)))), (3, (.sc (.int .i64 (3))))] = some (([0, 1, 2, 3] : List Int).map nv) := rfl
theorem F_half (w : Nat) : F w 26 6 = F w 25 7 / 2 := by
  unfold F; omega
theorem F_quarter (w : Nat) : F w 27 5 = F w 25 7 / 4 := by
  unfold F; omega
set_option maxHeartbeats 1000000 in
theorem op_r {base : Nat} (w : Nat) (h : Heap) (hw : w < 2 ^ 32) : WpF S0 base k_dec_operation [U32 w] h fun v h' => v = .sc (.int .i64 (opN w)) ∧ h' = h := by
  have hd0 : ∀ base h, WpF S0 base k_dec_field [U32 w, .sc (.int .i64 0), .sc (.int .i64 7)] h fun v h' => v = V.int (F w 0 7) ∧ h' = h := fun base h => dfield_r w 0 7 h hw (by decide) (by decide)
  have hd1 : ∀ base h, WpF S0 base k_dec_field [U32 w, .sc (.int .i64 12), .sc (.int .i64 3)] h fun v h' => v = V.int (F w 12 3) ∧ h' = h := fun base h => dfield_r w 12 3 h hw (by decide) (by decide)
  have hd2 : ∀ base h, WpF S0 base k_dec_field [U32 w, .sc (.int .i64 25), .sc (.int .i64 7)] h fun v h' => v = V.int (F w 25 7) ∧ h' = h := fun base h => dfield_r w 25 7 h hw (by decide) (by decide)
  have f3 := F_lt w 12 3
  have f7 := F_lt w 25 7
  have p0 := fun base k (hk : 0 ≤ k) (hk2 : k < 1000) h => pick_r (base := base) k (F w 12 3 : Nat) [0] h hk hk2 (by decide)
  have p63 := fun base h => p0 base 63 (by decide) (by decide) h
  have p4 := fun base h => p0 base 4 (by decide) (by decide) h
  clear p0
  have p1 := fun base h => pick_r (base := base) 5 (F w 12 3 : Nat) [0, 1, 4, 5, 6, 7] h (by decide) (by decide) (by decide)
  have p2 := fun base h => pick_r (base := base) 11 (F w 12 3 : Nat) [0, 1, 2, 3, 4, 5, 6] h (by decide) (by decide) (by decide)
  have p3 := fun base h => pick_r (base := base) 18 (F w 12 3 : Nat) [0, 1, 2, 3] h (by decide) (by decide) (by decide)
  have q1 := fun base h => imms_r (base := base) w (F w 12 3) h hw (by omega)
  have q2 := fun base h => small_r (base := base) (F w 12 3) (F w 25 7) h (by omega)
  have q3 := fun base h => whole_r (base := base) (F w 12 3) (F w 25 7) h (by omega) (by omega)
  have q4 := fun base h => half_r (base := base) (F w 12 3) (F w 25 7) h (by omega)
  have q5 := fun base h => atom_r (base := base) w (F w 12 3) h hw
  have q6 := fun base h => sys_r (base := base) w h hw
  rw [F_half] at q1
  rw [F_quarter] at q5
  unfold opN opF
  clear f3 f7
  revert hd0
  generalize F w 0 7 = o
  intro hd0
  first | refine zu (A := f_dec_operation) rfl rfl rfl rfl ?_ | refine zB (A := f_dec_operation) rfl rfl rfl rfl ?_
  simp only [f_dec_operation, oD, cD]
  (simp only [SQ, zm, AOp.opds, step, Opd.get, zk, bin, zc, IntKind.signed, zi, zj, zl, zb, unary, ze, zd, za, zo, zr, zh, zf, zg, zp, Cp.isFull, isNil, zq, simprocAttr, -List.reduceReplicate, SQX, V.cells, getParts2, op_f0, op_f1, op_f2, op_f3, nv_ground, zn (hd0 _ _), zn (hd1 _ _), zn (hd2 _ _), zn (p63 _ _), zn (p4 _ _), zn (p1 _ _), zn (p2 _ _), zn (p3 _ _), zn (q1 _ _), zn (q2 _ _), zn (q3 _ _), zn (q4 _ _), zn (q5 _ _), zn (q6 _ _)]; repeat' ((first | refine condQ_i ?_ ?_ | refine guardQ_t ?_ ?_ | refine guardQ_f ?_ ?_) <;> (intro hb; simp only [SQ, zm, AOp.opds, step, Opd.get, zk, bin, zc, IntKind.signed, zi, zj, zl, zb, unary, ze, zd, za, zo, zr, zh, zf, zg, zp, Cp.isFull, isNil, zq, simprocAttr, -List.reduceReplicate, SQX, V.cells, hb, getParts2, op_f0, op_f1, op_f2, op_f3, nv_ground, zn (hd0 _ _), zn (hd1 _ _), zn (hd2 _ _), zn (p63 _ _), zn (p4 _ _), zn (p1 _ _), zn (p2 _ _), zn (p3 _ _), zn (q1 _ _), zn (q2 _ _), zn (q3 _ _), zn (q4 _ _), zn (q5 _ _), zn (q6 _ _)])))
  all_goals clear p63 p4 p1 p2 p3 q1 q2 q3 q4 q5 q6 hd0 hd1 hd2
  all_goals (simp_all; try omega)
end
section
def Sub (a m : Nat) : Prop := a &&& m = a
theorem Sub.sum {a b ma mb : Nat} (ha : Sub a ma) (hb : Sub b mb) (h : ma &&& mb = 0) : a ||| b = a + b := or_sum ha hb h
theorem Sub.add {a b ma mb : Nat} (ha : Sub a ma) (hb : Sub b mb) (h : ma &&& mb = 0) : Sub (a + b) (ma ||| mb) := by
  rw [← ha.sum hb h]
  unfold Sub at *
  rw [Nat.and_or_distrib_left, Nat.and_or_distrib_right, Nat.and_or_distrib_right, ha, hb]
  apply Nat.eq_of_testBit_eq
  intro i
  have h1 := congrArg (fun x => x.testBit i) ha
  have h2 := congrArg (fun x => x.testBit i) hb
  simp only [Nat.testBit_and, Nat.testBit_or] at *
  revert h1 h2
  cases a.testBit i <;> cases b.testBit i <;> cases ma.testBit i <;> cases mb.testBit i <;> decide
theorem Sub.le {a m : Nat} (h : Sub a m) : a ≤ m := by
  unfold Sub at h
  rw [← h]; exact Nat.and_le_right
theorem Sub.F (w a n b : Nat) : Sub (F w a n * 2 ^ b) ((2 ^ n - 1) * 2 ^ b) := F_sub w a n b
theorem Sub.or64 {a b ma mb : Nat} (ha : Sub a ma) (hb : Sub b mb) (h : ma &&& mb = 0) (h1 : ma < 2 ^ 62) (h2 : mb < 2 ^ 62) : IntKind.i64.wrap (BitVec.ofInt IntKind.i64.bits (a : Int) ||| BitVec.ofInt IntKind.i64.bits (b : Int)).toNat = ((a + b : Nat) : Int) := by
  rw [or_i64 (Nat.lt_of_le_of_lt ha.le h1) (Nat.lt_of_le_of_lt hb.le h2), ha.sum hb h]
def bJ (w : Nat) : Nat := F w 31 1 * 2 ^ 20 + F w 21 10 * 2 ^ 1 + F w 20 1 * 2 ^ 11 + F w 12 8 * 2 ^ 12
def bB (w : Nat) : Nat := F w 31 1 * 2 ^ 12 + F w 25 6 * 2 ^ 5 + F w 8 4 * 2 ^ 1 + F w 7 1 * 2 ^ 11
def bS (w : Nat) : Nat := F w 25 7 * 2 ^ 5 + F w 7 5 * 2 ^ 0
def immW (w : Nat) (f : Int) : Int :=
  if f = 1 then S 20 (F w 12 20 * 2 ^ 0) else if f = 2 then S 21 (bJ w) else if f = 3 then S 12 (F w 20 12 * 2 ^ 0) else if f = 4 then S 13 (bB w) else if f = 5 then S 12 (bS w) else if f = 7 then (F w 20 6 * 2 ^ 0 : Nat) else if f = 8 then (F w 20 5 * 2 ^ 0 : Nat) else if f = 9 then (F w 20 8 * 2 ^ 0 : Nat) else 0
theorem dimm1_r {base : Nat} (w a n u : Nat) (h : Heap) (hw : w < 2 ^ 32) (hn : 1 ≤ n) (ha : a + n ≤ 32) (hu : u + n ≤ 40) : WpF S0 base k_dec_immediate_1 [V.int a, V.int n, V.int u, .eptr [U32 w] 0] h fun v h' => v = V.int ((F w a n * 2 ^ u : Nat) : Int) ∧ h' = h := by
  first | refine zu (A := f_dec_immediate_1) rfl rfl rfl rfl ?_ | refine zB (A := f_dec_immediate_1) rfl rfl rfl rfl ?_
  simp only [f_dec_immediate_1, oD, cD]
  have h1 := F_bnd w a n u 40 hu
  have e1 : IntKind.i64.wrap (((F w a n : Nat) : Int) * 2 ^ min u IntKind.i64.bits) = ((F w a n * 2 ^ u : Nat) : Int) := by
    rw [show min u IntKind.i64.bits = u from Nat.min_eq_left (by simp only [IntKind.bits]; omega), show (2 : Int) ^ u = ((2 ^ u : Nat) : Int) by simp, ← Int.natCast_mul]
    exact wrapn_i64 (by omega)
  simp only [SQ, SQB, zm, AOp.opds, step, Opd.get, zk, bin, zc, IntKind.signed, zi, zj, zl, zb, unary, ze, zd, za, zo, zr, zh, zf, zg, zp, Cp.isFull, isNil, zq, simprocAttr, SQX, V.cells, zn (dfield_r w a n _ hw hn ha), e1, show ¬ (u : Int) < 0 by omega]
set_option maxHeartbeats 2000000 in
theorem dimm_r {base : Nat} (w : Nat) (f : Int) (h : Heap) (hw : w < 2 ^ 32) : WpF S0 base k_dec_immediate [U32 w, .sc (.int .i64 f)] h fun v h' => v = .sc (.int .i64 (immW w f)) ∧ h' = h := by
  have g0 : ∀ base h, WpF S0 base k_dec_immediate_1 [.sc (.int .i64 12), .sc (.int .i64 20), .sc (.int .i64 0), .eptr [U32 w] 0] h fun v h' => v = V.int ((F w 12 20 * 2 ^ 0 : Nat) : Int) ∧ h' = h := fun base h => dimm1_r w 12 20 0 h hw (by decide) (by decide) (by decide)
  have g1 : ∀ base h, WpF S0 base k_dec_immediate_1 [.sc (.int .i64 31), .sc (.int .i64 1), .sc (.int .i64 20), .eptr [U32 w] 0] h fun v h' => v = V.int ((F w 31 1 * 2 ^ 20 : Nat) : Int) ∧ h' = h := fun base h => dimm1_r w 31 1 20 h hw (by decide) (by decide) (by decide)
  have g2 : ∀ base h, WpF S0 base k_dec_immediate_1 [.sc (.int .i64 21), .sc (.int .i64 10), .sc (.int .i64 1), .eptr [U32 w] 0] h fun v h' => v = V.int ((F w 21 10 * 2 ^ 1 : Nat) : Int) ∧ h' = h := fun base h => dimm1_r w 21 10 1 h hw (by decide) (by decide) (by decide)
  have g3 : ∀ base h, WpF S0 base k_dec_immediate_1 [.sc (.int .i64 20), .sc (.int .i64 1), .sc (.int .i64 11), .eptr [U32 w] 0] h fun v h' => v = V.int ((F w 20 1 * 2 ^ 11 : Nat) : Int) ∧ h' = h := fun base h => dimm1_r w 20 1 11 h hw (by decide) (by decide) (by decide)
  have g4 : ∀ base h, WpF S0 base k_dec_immediate_1 [.sc (.int .i64 12), .sc (.int .i64 8), .sc (.int .i64 12), .eptr [U32 w] 0] h fun v h' => v = V.int ((F w 12 8 * 2 ^ 12 : Nat) : Int) ∧ h' = h := fun base h => dimm1_r w 12 8 12 h hw (by decide) (by decide) (by decide)
  have g5 : ∀ base h, WpF S0 base k_dec_immediate_1 [.sc (.int .i64 20), .sc (.int .i64 12), .sc (.int .i64 0), .eptr [U32 w] 0] h fun v h' => v = V.int ((F w 20 12 * 2 ^ 0 : Nat) : Int) ∧ h' = h := fun base h => dimm1_r w 20 12 0 h hw (by decide) (by decide) (by decide)
  have g6 : ∀ base h, WpF S0 base k_dec_immediate_1 [.sc (.int .i64 31), .sc (.int .i64 1), .sc (.int .i64 12), .eptr [U32 w] 0] h fun v h' => v = V.int ((F w 31 1 * 2 ^ 12 : Nat) : Int) ∧ h' = h := fun base h => dimm1_r w 31 1 12 h hw (by decide) (by decide) (by decide)
  have g7 : ∀ base h, WpF S0 base k_dec_immediate_1 [.sc (.int .i64 25), .sc (.int .i64 6), .sc (.int .i64 5), .eptr [U32 w] 0] h fun v h' => v = V.int ((F w 25 6 * 2 ^ 5 : Nat) : Int) ∧ h' = h := fun base h => dimm1_r w 25 6 5 h hw (by decide) (by decide) (by decide)
  have g8 : ∀ base h, WpF S0 base k_dec_immediate_1 [.sc (.int .i64 8), .sc (.int .i64 4), .sc (.int .i64 1), .eptr [U32 w] 0] h fun v h' => v = V.int ((F w 8 4 * 2 ^ 1 : Nat) : Int) ∧ h' = h := fun base h => dimm1_r w 8 4 1 h hw (by decide) (by decide) (by decide)
  have g9 : ∀ base h, WpF S0 base k_dec_immediate_1 [.sc (.int .i64 7), .sc (.int .i64 1), .sc (.int .i64 11), .eptr [U32 w] 0] h fun v h' => v = V.int ((F w 7 1 * 2 ^ 11 : Nat) : Int) ∧ h' = h := fun base h => dimm1_r w 7 1 11 h hw (by decide) (by decide) (by decide)
  have g10 : ∀ base h, WpF S0 base k_dec_immediate_1 [.sc (.int .i64 25), .sc (.int .i64 7), .sc (.int .i64 5), .eptr [U32 w] 0] h fun v h' => v = V.int ((F w 25 7 * 2 ^ 5 : Nat) : Int) ∧ h' = h := fun base h => dimm1_r w 25 7 5 h hw (by decide) (by decide) (by decide)
  have g11 : ∀ base h, WpF S0 base k_dec_immediate_1 [.sc (.int .i64 7), .sc (.int .i64 5), .sc (.int .i64 0), .eptr [U32 w] 0] h fun v h' => v = V.int ((F w 7 5 * 2 ^ 0 : Nat) : Int) ∧ h' = h := fun base h => dimm1_r w 7 5 0 h hw (by decide) (by decide) (by decide)
  have g12 : ∀ base h, WpF S0 base k_dec_immediate_1 [.sc (.int .i64 20), .sc (.int .i64 6), .sc (.int .i64 0), .eptr [U32 w] 0] h fun v h' => v = V.int ((F w 20 6 * 2 ^ 0 : Nat) : Int) ∧ h' = h := fun base h => dimm1_r w 20 6 0 h hw (by decide) (by decide) (by decide)
  have g13 : ∀ base h, WpF S0 base k_dec_immediate_1 [.sc (.int .i64 20), .sc (.int .i64 5), .sc (.int .i64 0), .eptr [U32 w] 0] h fun v h' => v = V.int ((F w 20 5 * 2 ^ 0 : Nat) : Int) ∧ h' = h := fun base h => dimm1_r w 20 5 0 h hw (by decide) (by decide) (by decide)
  have g14 : ∀ base h, WpF S0 base k_dec_immediate_1 [.sc (.int .i64 20), .sc (.int .i64 8), .sc (.int .i64 0), .eptr [U32 w] 0] h fun v h' => v = V.int ((F w 20 8 * 2 ^ 0 : Nat) : Int) ∧ h' = h := fun base h => dimm1_r w 20 8 0 h hw (by decide) (by decide) (by decide)
  have oJ0 : IntKind.i64.wrap (BitVec.ofInt IntKind.i64.bits ((F w 31 1 * 2 ^ 20 : Nat) : Int) ||| BitVec.ofInt IntKind.i64.bits ((F w 21 10 * 2 ^ 1 : Nat) : Int)).toNat = ((F w 31 1 * 2 ^ 20 + F w 21 10 * 2 ^ 1 : Nat) : Int) := Sub.or64 (Sub.F w 31 1 20) (Sub.F w 21 10 1) (by decide) (by decide) (by decide)
  have oJ1 : IntKind.i64.wrap (BitVec.ofInt IntKind.i64.bits ((F w 31 1 * 2 ^ 20 + F w 21 10 * 2 ^ 1 : Nat) : Int) ||| BitVec.ofInt IntKind.i64.bits ((F w 20 1 * 2 ^ 11 : Nat) : Int)).toNat = ((F w 31 1 * 2 ^ 20 + F w 21 10 * 2 ^ 1 + F w 20 1 * 2 ^ 11 : Nat) : Int) := Sub.or64 (Sub.add (Sub.F w 31 1 20) (Sub.F w 21 10 1) (by decide)) (Sub.F w 20 1 11) (by decide) (by decide) (by decide)
  have oJ2 : IntKind.i64.wrap (BitVec.ofInt IntKind.i64.bits ((F w 31 1 * 2 ^ 20 + F w 21 10 * 2 ^ 1 + F w 20 1 * 2 ^ 11 : Nat) : Int) ||| BitVec.ofInt IntKind.i64.bits ((F w 12 8 * 2 ^ 12 : Nat) : Int)).toNat = ((F w 31 1 * 2 ^ 20 + F w 21 10 * 2 ^ 1 + F w 20 1 * 2 ^ 11 + F w 12 8 * 2 ^ 12 : Nat) : Int) := Sub.or64 (Sub.add (Sub.add (Sub.F w 31 1 20) (Sub.F w 21 10 1) (by decide)) (Sub.F w 20 1 11) (by decide)) (Sub.F w 12 8 12) (by decide) (by decide) (by decide)
  have soJ : ∀ base h, WpF S0 base k_dec_signed [V.int ((F w 31 1 * 2 ^ 20 + F w 21 10 * 2 ^ 1 + F w 20 1 * 2 ^ 11 + F w 12 8 * 2 ^ 12 : Nat) : Int), .sc (.int .i64 21)] h fun r h' => r = .sc (.int .i64 (S 21 (bJ w))) ∧ h' = h := fun base h => dsigned_r (F w 31 1 * 2 ^ 20 + F w 21 10 * 2 ^ 1 + F w 20 1 * 2 ^ 11 + F w 12 8 * 2 ^ 12) 21 h (Nat.lt_of_le_of_lt (Sub.le (Sub.add (Sub.add (Sub.add (Sub.F w 31 1 20) (Sub.F w 21 10 1) (by decide)) (Sub.F w 20 1 11) (by decide)) (Sub.F w 12 8 12) (by decide))) (by decide)) (by decide)
  have oB0 : IntKind.i64.wrap (BitVec.ofInt IntKind.i64.bits ((F w 31 1 * 2 ^ 12 : Nat) : Int) ||| BitVec.ofInt IntKind.i64.bits ((F w 25 6 * 2 ^ 5 : Nat) : Int)).toNat = ((F w 31 1 * 2 ^ 12 + F w 25 6 * 2 ^ 5 : Nat) : Int) := Sub.or64 (Sub.F w 31 1 12) (Sub.F w 25 6 5) (by decide) (by decide) (by decide)
  have oB1 : IntKind.i64.wrap (BitVec.ofInt IntKind.i64.bits ((F w 31 1 * 2 ^ 12 + F w 25 6 * 2 ^ 5 : Nat) : Int) ||| BitVec.ofInt IntKind.i64.bits ((F w 8 4 * 2 ^ 1 : Nat) : Int)).toNat = ((F w 31 1 * 2 ^ 12 + F w 25 6 * 2 ^ 5 + F w 8 4 * 2 ^ 1 : Nat) : Int) := Sub.or64 (Sub.add (Sub.F w 31 1 12) (Sub.F w 25 6 5) (by decide)) (Sub.F w 8 4 1) (by decide) (by decide) (by decide)
  have oB2 : IntKind.i64.wrap (BitVec.ofInt IntKind.i64.bits ((F w 31 1 * 2 ^ 12 + F w 25 6 * 2 ^ 5 + F w 8 4 * 2 ^ 1 : Nat) : Int) ||| BitVec.ofInt IntKind.i64.bits ((F w 7 1 * 2 ^ 11 : Nat) : Int)).toNat = ((F w 31 1 * 2 ^ 12 + F w 25 6 * 2 ^ 5 + F w 8 4 * 2 ^ 1 + F w 7 1 * 2 ^ 11 : Nat) : Int) := Sub.or64 (Sub.add (Sub.add (Sub.F w 31 1 12) (Sub.F w 25 6 5) (by decide)) (Sub.F w 8 4 1) (by decide)) (Sub.F w 7 1 11) (by decide) (by decide) (by decide)
  have soB : ∀ base h, WpF S0 base k_dec_signed [V.int ((F w 31 1 * 2 ^ 12 + F w 25 6 * 2 ^ 5 + F w 8 4 * 2 ^ 1 + F w 7 1 * 2 ^ 11 : Nat) : Int), .sc (.int .i64 13)] h fun r h' => r = .sc (.int .i64 (S 13 (bB w))) ∧ h' = h := fun base h => dsigned_r (F w 31 1 * 2 ^ 12 + F w 25 6 * 2 ^ 5 + F w 8 4 * 2 ^ 1 + F w 7 1 * 2 ^ 11) 13 h (Nat.lt_of_le_of_lt (Sub.le (Sub.add (Sub.add (Sub.add (Sub.F w 31 1 12) (Sub.F w 25 6 5) (by decide)) (Sub.F w 8 4 1) (by decide)) (Sub.F w 7 1 11) (by decide))) (by decide)) (by decide)
  have oS0 : IntKind.i64.wrap (BitVec.ofInt IntKind.i64.bits ((F w 25 7 * 2 ^ 5 : Nat) : Int) ||| BitVec.ofInt IntKind.i64.bits ((F w 7 5 * 2 ^ 0 : Nat) : Int)).toNat = ((F w 25 7 * 2 ^ 5 + F w 7 5 * 2 ^ 0 : Nat) : Int) := Sub.or64 (Sub.F w 25 7 5) (Sub.F w 7 5 0) (by decide) (by decide) (by decide)
  have soS : ∀ base h, WpF S0 base k_dec_signed [V.int ((F w 25 7 * 2 ^ 5 + F w 7 5 * 2 ^ 0 : Nat) : Int), .sc (.int .i64 12)] h fun r h' => r = .sc (.int .i64 (S 12 (bS w))) ∧ h' = h := fun base h => dsigned_r (F w 25 7 * 2 ^ 5 + F w 7 5 * 2 ^ 0) 12 h (Nat.lt_of_le_of_lt (Sub.le (Sub.add (Sub.F w 25 7 5) (Sub.F w 7 5 0) (by decide))) (by decide)) (by decide)
  have sU : ∀ base h, WpF S0 base k_dec_signed [V.int ((F w 12 20 * 2 ^ 0 : Nat) : Int), .sc (.int .i64 20)] h fun r h' => r = .sc (.int .i64 (S 20 (F w 12 20 * 2 ^ 0))) ∧ h' = h := fun base h => dsigned_r (F w 12 20 * 2 ^ 0) 20 h (F_bnd w 12 20 0 32 (by decide)) (by decide)
  have sI : ∀ base h, WpF S0 base k_dec_signed [V.int ((F w 20 12 * 2 ^ 0 : Nat) : Int), .sc (.int .i64 12)] h fun r h' => r = .sc (.int .i64 (S 12 (F w 20 12 * 2 ^ 0))) ∧ h' = h := fun base h => dsigned_r (F w 20 12 * 2 ^ 0) 12 h (F_bnd w 20 12 0 32 (by decide)) (by decide)
  unfold immW
  first | refine zu (A := f_dec_immediate) rfl rfl rfl rfl ?_ | refine zB (A := f_dec_immediate) rfl rfl rfl rfl ?_
  simp only [f_dec_immediate, oD, cD]
  (simp only [SQ, zm, AOp.opds, step, Opd.get, zk, bin, zc, IntKind.signed, zi, zj, zl, zb, unary, ze, zd, za, zo, zr, zh, zf, zg, zp, Cp.isFull, isNil, zq, simprocAttr, SQX, V.cells, zn (g0 _ _), zn (g1 _ _), zn (g2 _ _), zn (g3 _ _), zn (g4 _ _), zn (g5 _ _), zn (g6 _ _), zn (g7 _ _), zn (g8 _ _), zn (g9 _ _), zn (g10 _ _), zn (g11 _ _), zn (g12 _ _), zn (g13 _ _), zn (g14 _ _), oJ0, oJ1, oJ2, zn (soJ _ _), oB0, oB1, oB2, zn (soB _ _), oS0, zn (soS _ _), zn (sU _ _), zn (sI _ _)]; repeat' ((first | refine condQ_i ?_ ?_ | refine guardQ_t ?_ ?_ | refine guardQ_f ?_ ?_) <;> (intro hb; simp only [SQ, zm, AOp.opds, step, Opd.get, zk, bin, zc, IntKind.signed, zi, zj, zl, zb, unary, ze, zd, za, zo, zr, zh, zf, zg, zp, Cp.isFull, isNil, zq, simprocAttr, SQX, V.cells, hb, zn (g0 _ _), zn (g1 _ _), zn (g2 _ _), zn (g3 _ _), zn (g4 _ _), zn (g5 _ _), zn (g6 _ _), zn (g7 _ _), zn (g8 _ _), zn (g9 _ _), zn (g10 _ _), zn (g11 _ _), zn (g12 _ _), zn (g13 _ _), zn (g14 _ _), oJ0, oJ1, oJ2, zn (soJ _ _), oB0, oB1, oB2, zn (soB _ _), oS0, zn (soS _ _), zn (sU _ _), zn (sI _ _)])))
  all_goals clear g0 g1 g2 g3 g4 g5 g6 g7 g8 g9 g10 g11 g12 g13 g14 oJ0 oJ1 oJ2 oB0 oB1 oB2 oS0 soJ soB soS sU sI
  all_goals simp_all
end
section
set_option maxHeartbeats 2000000 in
theorem rimm_r {base : Nat} (w : Nat) (f : Int) (h : Heap) (hw : w < 2 ^ 32) : WpF S0 base k_spinnakerref05_imm [U32 w, .sc (.int .i64 f)] h fun v h' => v = .sc (.int .i64 (immW w f)) ∧ h' = h := by
  have g0 : ∀ base h, WpF S0 base k_spinnakerref05_bits [U32 w, .sc (.int .i64 12), .sc (.int .i64 20), .sc (.int .i64 0)] h fun v h' => v = V.int ((F w 12 20 * 2 ^ 0 : Nat) : Int) ∧ h' = h := fun base h => rbits5_r w 12 20 0 h hw (by decide) (by decide)
  have g1 : ∀ base h, WpF S0 base k_spinnakerref05_bits [U32 w, .sc (.int .i64 31), .sc (.int .i64 1), .sc (.int .i64 20)] h fun v h' => v = V.int ((F w 31 1 * 2 ^ 20 : Nat) : Int) ∧ h' = h := fun base h => rbits5_r w 31 1 20 h hw (by decide) (by decide)
  have g2 : ∀ base h, WpF S0 base k_spinnakerref05_bits [U32 w, .sc (.int .i64 21), .sc (.int .i64 10), .sc (.int .i64 1)] h fun v h' => v = V.int ((F w 21 10 * 2 ^ 1 : Nat) : Int) ∧ h' = h := fun base h => rbits5_r w 21 10 1 h hw (by decide) (by decide)
  have g3 : ∀ base h, WpF S0 base k_spinnakerref05_bits [U32 w, .sc (.int .i64 20), .sc (.int .i64 1), .sc (.int .i64 11)] h fun v h' => v = V.int ((F w 20 1 * 2 ^ 11 : Nat) : Int) ∧ h' = h := fun base h => rbits5_r w 20 1 11 h hw (by decide) (by decide)
  have g4 : ∀ base h, WpF S0 base k_spinnakerref05_bits [U32 w, .sc (.int .i64 12), .sc (.int .i64 8), .sc (.int .i64 12)] h fun v h' => v = V.int ((F w 12 8 * 2 ^ 12 : Nat) : Int) ∧ h' = h := fun base h => rbits5_r w 12 8 12 h hw (by decide) (by decide)
  have g5 : ∀ base h, WpF S0 base k_spinnakerref05_bits [U32 w, .sc (.int .i64 20), .sc (.int .i64 12), .sc (.int .i64 0)] h fun v h' => v = V.int ((F w 20 12 * 2 ^ 0 : Nat) : Int) ∧ h' = h := fun base h => rbits5_r w 20 12 0 h hw (by decide) (by decide)
  have g6 : ∀ base h, WpF S0 base k_spinnakerref05_bits [U32 w, .sc (.int .i64 31), .sc (.int .i64 1), .sc (.int .i64 12)] h fun v h' => v = V.int ((F w 31 1 * 2 ^ 12 : Nat) : Int) ∧ h' = h := fun base h => rbits5_r w 31 1 12 h hw (by decide) (by decide)
  have g7 : ∀ base h, WpF S0 base k_spinnakerref05_bits [U32 w, .sc (.int .i64 25), .sc (.int .i64 6), .sc (.int .i64 5)] h fun v h' => v = V.int ((F w 25 6 * 2 ^ 5 : Nat) : Int) ∧ h' = h := fun base h => rbits5_r w 25 6 5 h hw (by decide) (by decide)
  have g8 : ∀ base h, WpF S0 base k_spinnakerref05_bits [U32 w, .sc (.int .i64 8), .sc (.int .i64 4), .sc (.int .i64 1)] h fun v h' => v = V.int ((F w 8 4 * 2 ^ 1 : Nat) : Int) ∧ h' = h := fun base h => rbits5_r w 8 4 1 h hw (by decide) (by decide)
  have g9 : ∀ base h, WpF S0 base k_spinnakerref05_bits [U32 w, .sc (.int .i64 7), .sc (.int .i64 1), .sc (.int .i64 11)] h fun v h' => v = V.int ((F w 7 1 * 2 ^ 11 : Nat) : Int) ∧ h' = h := fun base h => rbits5_r w 7 1 11 h hw (by decide) (by decide)
  have g10 : ∀ base h, WpF S0 base k_spinnakerref05_bits [U32 w, .sc (.int .i64 25), .sc (.int .i64 7), .sc (.int .i64 5)] h fun v h' => v = V.int ((F w 25 7 * 2 ^ 5 : Nat) : Int) ∧ h' = h := fun base h => rbits5_r w 25 7 5 h hw (by decide) (by decide)
  have g11 : ∀ base h, WpF S0 base k_spinnakerref05_bits [U32 w, .sc (.int .i64 7), .sc (.int .i64 5), .sc (.int .i64 0)] h fun v h' => v = V.int ((F w 7 5 * 2 ^ 0 : Nat) : Int) ∧ h' = h := fun base h => rbits5_r w 7 5 0 h hw (by decide) (by decide)
  have g12 : ∀ base h, WpF S0 base k_spinnakerref05_bits [U32 w, .sc (.int .i64 20), .sc (.int .i64 6), .sc (.int .i64 0)] h fun v h' => v = V.int ((F w 20 6 * 2 ^ 0 : Nat) : Int) ∧ h' = h := fun base h => rbits5_r w 20 6 0 h hw (by decide) (by decide)
  have g13 : ∀ base h, WpF S0 base k_spinnakerref05_bits [U32 w, .sc (.int .i64 20), .sc (.int .i64 5), .sc (.int .i64 0)] h fun v h' => v = V.int ((F w 20 5 * 2 ^ 0 : Nat) : Int) ∧ h' = h := fun base h => rbits5_r w 20 5 0 h hw (by decide) (by decide)
  have g14 : ∀ base h, WpF S0 base k_spinnakerref05_bits [U32 w, .sc (.int .i64 20), .sc (.int .i64 8), .sc (.int .i64 0)] h fun v h' => v = V.int ((F w 20 8 * 2 ^ 0 : Nat) : Int) ∧ h' = h := fun base h => rbits5_r w 20 8 0 h hw (by decide) (by decide)
  have oJ0 : IntKind.i64.wrap (((F w 31 1 * 2 ^ 20 : Nat) : Int) + ((F w 21 10 * 2 ^ 1 : Nat) : Int)) = ((F w 31 1 * 2 ^ 20 + F w 21 10 * 2 ^ 1 : Nat) : Int) := by rw [← Int.natCast_add]; exact wrapn_i64 (Nat.lt_of_le_of_lt (Sub.le (Sub.add (Sub.F w 31 1 20) (Sub.F w 21 10 1) (by decide))) (by decide))
  have oJ1 : IntKind.i64.wrap (((F w 31 1 * 2 ^ 20 + F w 21 10 * 2 ^ 1 : Nat) : Int) + ((F w 20 1 * 2 ^ 11 : Nat) : Int)) = ((F w 31 1 * 2 ^ 20 + F w 21 10 * 2 ^ 1 + F w 20 1 * 2 ^ 11 : Nat) : Int) := by rw [← Int.natCast_add]; exact wrapn_i64 (Nat.lt_of_le_of_lt (Sub.le (Sub.add (Sub.add (Sub.F w 31 1 20) (Sub.F w 21 10 1) (by decide)) (Sub.F w 20 1 11) (by decide))) (by decide))
  have oJ2 : IntKind.i64.wrap (((F w 31 1 * 2 ^ 20 + F w 21 10 * 2 ^ 1 + F w 20 1 * 2 ^ 11 : Nat) : Int) + ((F w 12 8 * 2 ^ 12 : Nat) : Int)) = ((F w 31 1 * 2 ^ 20 + F w 21 10 * 2 ^ 1 + F w 20 1 * 2 ^ 11 + F w 12 8 * 2 ^ 12 : Nat) : Int) := by rw [← Int.natCast_add]; exact wrapn_i64 (Nat.lt_of_le_of_lt (Sub.le (Sub.add (Sub.add (Sub.add (Sub.F w 31 1 20) (Sub.F w 21 10 1) (by decide)) (Sub.F w 20 1 11) (by decide)) (Sub.F w 12 8 12) (by decide))) (by decide))
  have woJ : IntKind.u64.wrap ((F w 31 1 * 2 ^ 20 + F w 21 10 * 2 ^ 1 + F w 20 1 * 2 ^ 11 + F w 12 8 * 2 ^ 12 : Nat) : Int) = ((F w 31 1 * 2 ^ 20 + F w 21 10 * 2 ^ 1 + F w 20 1 * 2 ^ 11 + F w 12 8 * 2 ^ 12 : Nat) : Int) := wrapn_u64 (Nat.lt_of_le_of_lt (Sub.le (Sub.add (Sub.add (Sub.add (Sub.F w 31 1 20) (Sub.F w 21 10 1) (by decide)) (Sub.F w 20 1 11) (by decide)) (Sub.F w 12 8 12) (by decide))) (by decide))
  have soJ : ∀ base h, WpF S0 base k_spinnakerref01_Sign [.sc (.int .u64 ((F w 31 1 * 2 ^ 20 + F w 21 10 * 2 ^ 1 + F w 20 1 * 2 ^ 11 + F w 12 8 * 2 ^ 12 : Nat) : Int)), .sc (.int .i64 21)] h fun r h' => r = .sc (.int .i64 (S 21 (bJ w))) ∧ h' = h := fun base h => rSign_r (F w 31 1 * 2 ^ 20 + F w 21 10 * 2 ^ 1 + F w 20 1 * 2 ^ 11 + F w 12 8 * 2 ^ 12) 21 h (Nat.lt_of_le_of_lt (Sub.le (Sub.add (Sub.add (Sub.add (Sub.F w 31 1 20) (Sub.F w 21 10 1) (by decide)) (Sub.F w 20 1 11) (by decide)) (Sub.F w 12 8 12) (by decide))) (by decide)) (by decide) (by decide)
  have oB0 : IntKind.i64.wrap (((F w 31 1 * 2 ^ 12 : Nat) : Int) + ((F w 25 6 * 2 ^ 5 : Nat) : Int)) = ((F w 31 1 * 2 ^ 12 + F w 25 6 * 2 ^ 5 : Nat) : Int) := by rw [← Int.natCast_add]; exact wrapn_i64 (Nat.lt_of_le_of_lt (Sub.le (Sub.add (Sub.F w 31 1 12) (Sub.F w 25 6 5) (by decide))) (by decide))
  have oB1 : IntKind.i64.wrap (((F w 31 1 * 2 ^ 12 + F w 25 6 * 2 ^ 5 : Nat) : Int) + ((F w 8 4 * 2 ^ 1 : Nat) : Int)) = ((F w 31 1 * 2 ^ 12 + F w 25 6 * 2 ^ 5 + F w 8 4 * 2 ^ 1 : Nat) : Int) := by rw [← Int.natCast_add]; exact wrapn_i64 (Nat.lt_of_le_of_lt (Sub.le (Sub.add (Sub.add (Sub.F w 31 1 12) (Sub.F w 25 6 5) (by decide)) (Sub.F w 8 4 1) (by decide))) (by decide))
  have oB2 : IntKind.i64.wrap (((F w 31 1 * 2 ^ 12 + F w 25 6 * 2 ^ 5 + F w 8 4 * 2 ^ 1 : Nat) : Int) + ((F w 7 1 * 2 ^ 11 : Nat) : Int)) = ((F w 31 1 * 2 ^ 12 + F w 25 6 * 2 ^ 5 + F w 8 4 * 2 ^ 1 + F w 7 1 * 2 ^ 11 : Nat) : Int) := by rw [← Int.natCast_add]; exact wrapn_i64 (Nat.lt_of_le_of_lt (Sub.le (Sub.add (Sub.add (Sub.add (Sub.F w 31 1 12) (Sub.F w 25 6 5) (by decide)) (Sub.F w 8 4 1) (by decide)) (Sub.F w 7 1 11) (by decide))) (by decide))
  have woB : IntKind.u64.wrap ((F w 31 1 * 2 ^ 12 + F w 25 6 * 2 ^ 5 + F w 8 4 * 2 ^ 1 + F w 7 1 * 2 ^ 11 : Nat) : Int) = ((F w 31 1 * 2 ^ 12 + F w 25 6 * 2 ^ 5 + F w 8 4 * 2 ^ 1 + F w 7 1 * 2 ^ 11 : Nat) : Int) := wrapn_u64 (Nat.lt_of_le_of_lt (Sub.le (Sub.add (Sub.add (Sub.add (Sub.F w 31 1 12) (Sub.F w 25 6 5) (by decide)) (Sub.F w 8 4 1) (by decide)) (Sub.F w 7 1 11) (by decide))) (by decide))
  have soB : ∀ base h, WpF S0 base k_spinnakerref01_Sign [.sc (.int .u64 ((F w 31 1 * 2 ^ 12 + F w 25 6 * 2 ^ 5 + F w 8 4 * 2 ^ 1 + F w 7 1 * 2 ^ 11 : Nat) : Int)), .sc (.int .i64 13)] h fun r h' => r = .sc (.int .i64 (S 13 (bB w))) ∧ h' = h := fun base h => rSign_r (F w 31 1 * 2 ^ 12 + F w 25 6 * 2 ^ 5 + F w 8 4 * 2 ^ 1 + F w 7 1 * 2 ^ 11) 13 h (Nat.lt_of_le_of_lt (Sub.le (Sub.add (Sub.add (Sub.add (Sub.F w 31 1 12) (Sub.F w 25 6 5) (by decide)) (Sub.F w 8 4 1) (by decide)) (Sub.F w 7 1 11) (by decide))) (by decide)) (by decide) (by decide)
  have oS0 : IntKind.i64.wrap (((F w 25 7 * 2 ^ 5 : Nat) : Int) + ((F w 7 5 * 2 ^ 0 : Nat) : Int)) = ((F w 25 7 * 2 ^ 5 + F w 7 5 * 2 ^ 0 : Nat) : Int) := by rw [← Int.natCast_add]; exact wrapn_i64 (Nat.lt_of_le_of_lt (Sub.le (Sub.add (Sub.F w 25 7 5) (Sub.F w 7 5 0) (by decide))) (by decide))
  have woS : IntKind.u64.wrap ((F w 25 7 * 2 ^ 5 + F w 7 5 * 2 ^ 0 : Nat) : Int) = ((F w 25 7 * 2 ^ 5 + F w 7 5 * 2 ^ 0 : Nat) : Int) := wrapn_u64 (Nat.lt_of_le_of_lt (Sub.le (Sub.add (Sub.F w 25 7 5) (Sub.F w 7 5 0) (by decide))) (by decide))
  have soS : ∀ base h, WpF S0 base k_spinnakerref01_Sign [.sc (.int .u64 ((F w 25 7 * 2 ^ 5 + F w 7 5 * 2 ^ 0 : Nat) : Int)), .sc (.int .i64 12)] h fun r h' => r = .sc (.int .i64 (S 12 (bS w))) ∧ h' = h := fun base h => rSign_r (F w 25 7 * 2 ^ 5 + F w 7 5 * 2 ^ 0) 12 h (Nat.lt_of_le_of_lt (Sub.le (Sub.add (Sub.F w 25 7 5) (Sub.F w 7 5 0) (by decide))) (by decide)) (by decide) (by decide)
  have woU : IntKind.u64.wrap ((F w 12 20 * 2 ^ 0 : Nat) : Int) = ((F w 12 20 * 2 ^ 0 : Nat) : Int) := wrapn_u64 (Nat.lt_of_le_of_lt (Sub.le (Sub.F w 12 20 0)) (by decide))
  have soU : ∀ base h, WpF S0 base k_spinnakerref01_Sign [.sc (.int .u64 ((F w 12 20 * 2 ^ 0 : Nat) : Int)), .sc (.int .i64 20)] h fun r h' => r = .sc (.int .i64 (S 20 (F w 12 20 * 2 ^ 0))) ∧ h' = h := fun base h => rSign_r (F w 12 20 * 2 ^ 0) 20 h (Nat.lt_of_le_of_lt (Sub.le (Sub.F w 12 20 0)) (by decide)) (by decide) (by decide)
  have woI : IntKind.u64.wrap ((F w 20 12 * 2 ^ 0 : Nat) : Int) = ((F w 20 12 * 2 ^ 0 : Nat) : Int) := wrapn_u64 (Nat.lt_of_le_of_lt (Sub.le (Sub.F w 20 12 0)) (by decide))
  have soI : ∀ base h, WpF S0 base k_spinnakerref01_Sign [.sc (.int .u64 ((F w 20 12 * 2 ^ 0 : Nat) : Int)), .sc (.int .i64 12)] h fun r h' => r = .sc (.int .i64 (S 12 (F w 20 12 * 2 ^ 0))) ∧ h' = h := fun base h => rSign_r (F w 20 12 * 2 ^ 0) 12 h (Nat.lt_of_le_of_lt (Sub.le (Sub.F w 20 12 0)) (by decide)) (by decide) (by decide)
  unfold immW
  first | refine zu (A := f_spinnakerref05_imm) rfl rfl rfl rfl ?_ | refine zB (A := f_spinnakerref05_imm) rfl rfl rfl rfl ?_
  simp only [f_spinnakerref05_imm, oD, cD]
  (simp only [SQ, zm, AOp.opds, step, Opd.get, zk, bin, zc, IntKind.signed, zi, zj, zl, zb, unary, ze, zd, za, zo, zr, zh, zf, zg, zp, Cp.isFull, isNil, zq, simprocAttr, SQX, V.cells, zn (g0 _ _), zn (g1 _ _), zn (g2 _ _), zn (g3 _ _), zn (g4 _ _), zn (g5 _ _), zn (g6 _ _), zn (g7 _ _), zn (g8 _ _), zn (g9 _ _), zn (g10 _ _), zn (g11 _ _), zn (g12 _ _), zn (g13 _ _), zn (g14 _ _), oJ0, oJ1, oJ2, woJ, zn (soJ _ _), oB0, oB1, oB2, woB, zn (soB _ _), oS0, woS, zn (soS _ _), woU, zn (soU _ _), woI, zn (soI _ _)]; repeat' ((first | refine condQ_i ?_ ?_ | refine guardQ_t ?_ ?_ | refine guardQ_f ?_ ?_) <;> (intro hb; simp only [SQ, zm, AOp.opds, step, Opd.get, zk, bin, zc, IntKind.signed, zi, zj, zl, zb, unary, ze, zd, za, zo, zr, zh, zf, zg, zp, Cp.isFull, isNil, zq, simprocAttr, SQX, V.cells, hb, zn (g0 _ _), zn (g1 _ _), zn (g2 _ _), zn (g3 _ _), zn (g4 _ _), zn (g5 _ _), zn (g6 _ _), zn (g7 _ _), zn (g8 _ _), zn (g9 _ _), zn (g10 _ _), zn (g11 _ _), zn (g12 _ _), zn (g13 _ _), zn (g14 _ _), oJ0, oJ1, oJ2, woJ, zn (soJ _ _), oB0, oB1, oB2, woB, zn (soB _ _), oS0, woS, zn (soS _ _), woU, zn (soU _ _), woI, zn (soI _ _)])))
  all_goals clear g0 g1 g2 g3 g4 g5 g6 g7 g8 g9 g10 g11 g12 g13 g14 oJ0 oJ1 oJ2 woJ soJ oB0 oB1 oB2 woB soB oS0 woS soS woU soU woI soI
  all_goals simp_all
end
section
theorem may_new {base b : Nat} {cs : List V} (h : base ≤ b) : mayStore base b cs = true := by simp [mayStore, h]
theorem st_new {base : Nat} {hh : Heap} {t : TypeId} {cs ds : List V} {n : Nat} (h1 : ds.length = n) (h2 : cs.length = n) (h3 : ds.all zm = true) (h4 : base ≤ hh.length) : storeV base (hh ++ [.box t cs]) n (.ptr hh.length 0) (.agg ds) = some (hh ++ [.box t ds]) := by
  unfold storeV
  rw [if_pos ⟨h1, h3⟩]
  simp only [at_new, set_new]
  rw [if_pos ⟨by omega, may_new h4⟩, show (V.agg ds).cells = ds from rfl, putAllW (by omega)]
theorem put_one {cs : List V} {k : Nat} {x : V} (h : k < cs.length) : putCells cs k [x] = cs.set k x := by
  simp only [putCells, List.length_cons, List.length_nil, Nat.zero_add]
  rw [List.set_eq_take_append_cons_drop, if_pos h, List.append_assoc]; rfl
theorem st_cell {base : Nat} {hh : Heap} {t : TypeId} {cs : List V} {k : Nat} {x : Value} (h2 : k < cs.length) (h4 : base ≤ hh.length) : storeV base (hh ++ [.box t cs]) 1 (.ptr hh.length k) (.sc x) = some (hh ++ [.box t (cs.set k (.sc x))]) := by
  unfold storeV
  rw [if_pos ⟨rfl, rfl⟩]
  simp only [at_new, set_new]
  rw [if_pos ⟨by omega, may_new h4⟩, show (V.sc x).cells = [.sc x] from rfl, put_one h2]
theorem ld_new {hh : Heap} {t : TypeId} {cs : List V} {n : Nat} (h : cs.length = n) : zl (hh ++ [.box t cs]) (some n) (.ptr hh.length 0) = some (.agg cs) := by
  simp only [zl, at_new, zb]
  rw [if_pos (by omega), List.drop_zero, List.take_of_length_le (by omega)]
theorem st_prev {base : Nat} {hh : Heap} {t : TypeId} {y : Obj} {cs ds : List V} {n : Nat} (h1 : ds.length = n) (h2 : cs.length = n) (h3 : ds.all zm = true) (h4 : base ≤ hh.length) : storeV base (hh ++ [.box t cs] ++ [y]) n (.ptr hh.length 0) (.agg ds) = some (hh ++ [.box t ds] ++ [y]) := by
  unfold storeV
  have e : (hh ++ [.box t cs] ++ [y])[hh.length]? = some (.box t cs) := by simp
  have e2 : ∀ z : Obj, (hh ++ [Obj.box t cs] ++ [y]).set hh.length z = hh ++ [z] ++ [y] := fun z => by simp
  rw [if_pos ⟨h1, h3⟩]
  simp only [e, e2]
  rw [if_pos ⟨by omega, may_new h4⟩, show (V.agg ds).cells = ds from rfl, putAllW (by omega)]
theorem ld_prev {hh : Heap} {t : TypeId} {y : Obj} {cs : List V} {n : Nat} (h : cs.length = n) : zl (hh ++ [.box t cs] ++ [y]) (some n) (.ptr hh.length 0) = some (.agg cs) := by
  have e : (hh ++ [.box t cs] ++ [y])[hh.length]? = some (.box t cs) := by simp
  simp only [zl, e, zb]
  rw [if_pos (by omega), List.drop_zero, List.take_of_length_le (by omega)]
theorem len_le (h l : Heap) : (h.length ≤ (h ++ l).length) = True := by simp
theorem take_two (h : Heap) (x y : Obj) : (h ++ [x] ++ [y]).take h.length = h := by simp
def prd (w : Nat) (f : Int) : Int := if fRd f then (F w 7 5 : Nat) else 0
def pA (w : Nat) (f : Int) : Int := if fA f then (F w 15 5 : Nat) else 0
def pB (w : Nat) (f : Int) : Int := if fB f then (F w 20 5 : Nat) else 0
def pAq (w : Nat) (f : Int) : Bool := fO f && decide (((F w 26 1 : Nat) : Int) = 1)
def pRl (w : Nat) (f : Int) : Bool := fO f && decide (((F w 25 1 : Nat) : Int) = 1)
abbrev partsV (w : Nat) (op : Int) : V := ins op (prd w (formI op)) (pA w (formI op)) (pB w (formI op)) (immW w (formI op)) (pAq w (formI op)) (pRl w (formI op))
set_option maxHeartbeats 2000000 in
theorem parts_r {base : Nat} (w : Nat) (op : Int) (h : Heap) (hw : w < 2 ^ 32) : WpF S0 base k_dec_parts [U32 w, .sc (.int .i64 op)] h fun v h' => v = partsV w op ∧ h' = h := by
  have hF := fun base h => isaForm_r (base := base) op h
  have hi := fun base f h => dimm_r (base := base) w f h hw
  have d1 : ∀ base h, WpF S0 base k_dec_field [U32 w, .sc (.int .i64 7), .sc (.int .i64 5)] h fun v h' => v = V.int (F w 7 5) ∧ h' = h := fun base h => dfield_r w 7 5 h hw (by decide) (by decide)
  have d2 : ∀ base h, WpF S0 base k_dec_field [U32 w, .sc (.int .i64 15), .sc (.int .i64 5)] h fun v h' => v = V.int (F w 15 5) ∧ h' = h := fun base h => dfield_r w 15 5 h hw (by decide) (by decide)
  have d3 : ∀ base h, WpF S0 base k_dec_field [U32 w, .sc (.int .i64 20), .sc (.int .i64 5)] h fun v h' => v = V.int (F w 20 5) ∧ h' = h := fun base h => dfield_r w 20 5 h hw (by decide) (by decide)
  have d4 : ∀ base h, WpF S0 base k_dec_field [U32 w, .sc (.int .i64 26), .sc (.int .i64 1)] h fun v h' => v = V.int (F w 26 1) ∧ h' = h := fun base h => dfield_r w 26 1 h hw (by decide) (by decide)
  have d5 : ∀ base h, WpF S0 base k_dec_field [U32 w, .sc (.int .i64 25), .sc (.int .i64 1)] h fun v h' => v = V.int (F w 25 1) ∧ h' = h := fun base h => dfield_r w 25 1 h hw (by decide) (by decide)
  unfold partsV prd pA pB pAq pRl
  generalize formI op = f at *
  have em : ∀ i : Int, fillParts [.sc (.int .i64 0), .sc (.int .i64 0), .sc (.int .i64 0), .sc (.int .i64 0), .sc (.int .i64 0), .sc (.bool false), .sc (.bool false)] [(0, 1, .sc (.int .i64 op)), (4, 1, .sc (.int .i64 i))] = some [.sc (.int .i64 op), .sc (.int .i64 0), .sc (.int .i64 0), .sc (.int .i64 0), .sc (.int .i64 i), .sc (.bool false), .sc (.bool false)] := fun i => rfl
  first | refine zu (A := f_dec_parts) rfl rfl rfl rfl ?_ | refine zB (A := f_dec_parts) rfl rfl rfl rfl ?_
  simp only [f_dec_parts, oD, cD]
  (simp only [SQ, zm, AOp.opds, step, Opd.get, zk, bin, zc, IntKind.signed, zi, zj, zb, unary, ze, zd, za, zo, zr, zh, zf, zg, zp, Cp.isFull, isNil, zq, simprocAttr, SQX, V.cells, zn (hF _ _), zn (hi _ _ _), zn (d1 _ _), zn (d2 _ _), zn (d3 _ _), zn (d4 _ _), zn (d5 _ _), getParts, em, st_new, st_cell, ld_new, st_prev, ld_prev, len_le, take_two, List.set_cons_zero, List.set_cons_succ]; repeat' ((first | refine condQ_i ?_ ?_ | refine guardQ_t ?_ ?_ | refine guardQ_f ?_ ?_) <;> (intro hb; simp only [SQ, zm, AOp.opds, step, Opd.get, zk, bin, zc, IntKind.signed, zi, zj, zb, unary, ze, zd, za, zo, zr, zh, zf, zg, zp, Cp.isFull, isNil, zq, simprocAttr, SQX, V.cells, hb, zn (hF _ _), zn (hi _ _ _), zn (d1 _ _), zn (d2 _ _), zn (d3 _ _), zn (d4 _ _), zn (d5 _ _), getParts, em, st_new, st_cell, ld_new, st_prev, ld_prev, len_le, take_two, List.set_cons_zero, List.set_cons_succ])))
  all_goals clear hF hi d1 d2 d3 d4 d5
  all_goals simp_all [fRd, fA, fB, fO]
end
end Go.Am
