/- The abstract machine and what is proved in it, part 14. -/
import Derived.Test.YtjjgpjlfnendaaaDoorAm13
set_option linter.unusedVariables false
set_option linter.unusedSimpArgs false
namespace Go.Am
section
mutual
def mxN : Nd → Nat
  | .mk _ s t _ _ _ l => max (max s.size t.size) (mxL l)
def mxL : List Nd → Nat
  | [] => 0
  | x :: r => max (mxN x) (mxL r)
end
theorem mxL_mem : ∀ {l : List Nd} {x : Nd}, x ∈ l → mxN x ≤ mxL l
  | [], x, h => by simp at h
  | y :: r, x, h => by
    simp only [mxL]
    rcases List.mem_cons.1 h with rfl | h
    · omega
    · have := mxL_mem h; omega
theorem mx_child {x y : Nd} (h : y ∈ x.l) : mxN y ≤ mxN x := by
  cases x with
  | mk k s t n o ln l =>
    have := mxL_mem h
    simp only [mxN]
    simp only [Nd.l] at this
    omega
theorem mx_s (x : Nd) : x.s.size ≤ mxN x ∧ x.t.size ≤ mxN x := by
  cases x; simp only [mxN, Nd.s, Nd.t]; omega
theorem szL_eq : ∀ l : List Nd, szL l = (l.map szN).sum
  | [] => rfl
  | x :: r => by simp only [szL, szL_eq r, List.map_cons, List.sum_cons]
theorem szL_take {l : List Nd} {i : Nat} (hi : i < l.length) : szL (l.take (i + 1)) = szL (l.take i) + szN l[i] := by
  rw [szL_eq, szL_eq, List.take_add_one, List.getElem?_eq_getElem hi, List.map_append, List.sum_append]
  simp
theorem szN_eq (x : Nd) : szN x = 1 + szL x.l := by cases x; rfl
def SizeOk (x : Nd) : Prop := ∀ (base : Nat) (cs : List V) (h : Heap) (a d : Int), NdV x cs → mxN x ≤ 2 ^ 63 → 0 ≤ a → a ≤ 1500 → WpF S0 base k_spinnakerlaw25_size [.agg cs, .sc (.int .i64 a), .sc (.int .i64 d)] h fun v h' => (∃ m : Int, v = .sc (.int .i64 m) ∧ (1500 < m ∨ a + szN x ≤ m)) ∧ h' = h
theorem tdiv16 (n : Nat) : (n : Int).tdiv 16 = ((n / 16 : Nat) : Int) := by
  rw [Int.tdiv_eq_ediv_of_nonneg (by omega)]; omega
set_option maxHeartbeats 2000000 in
theorem size_r (n : Nat) : ∀ (x : Nd), szN x ≤ n → SizeOk x := by
  refine n.rec (fun x hn => ?_) (fun n ih x hn => ?_)
  · cases x; simp [szN] at hn
  have hm : ∀ y ∈ x.l, SizeOk y := fun y hy => ih y (by have := sz_child hy; omega)
  intro base cs h a d hv hmx ha ha2
  obtain ⟨lv, rfl, hl⟩ := hv.open
  have ll := hl.len
  have lt := hl.lt
  have hs := mx_s x
  first | refine zu (A := f_spinnakerlaw25_size) rfl rfl rfl rfl ?_ | refine zB (A := f_spinnakerlaw25_size) rfl rfl rfl rfl ?_
  simp only [f_spinnakerlaw25_size, oD, cD]
  refine zw (fun en' h' => en' 3 = .eptr (ndC x lv) 0 ∧ en' 1 = .sc (.int .i64 a) ∧ en' 2 = .sc (.int .i64 d) ∧ h' = h) ?_ ?_
  · simp only [SQ, SQB, zm, AOp.opds, step, Opd.get, zk, bin, zc, IntKind.signed, zi, zj, zl, zb, unary, ze, zd, za, zo, zr, zh, zf, zg, zp, Cp.isFull, isNil, zq, simprocAttr, SQX, V.cells, hl.gr]
  rintro en1 h1 ⟨e3, e1, e2, rfl⟩
  refine zw (fun en' h' => en' 3 = .eptr (ndC x lv) 0 ∧ (∃ a2 : Int, en' 1 = .sc (.int .i64 a2) ∧ a + 1 ≤ a2) ∧ en' 2 = .sc (.int .i64 d) ∧ h' = h1) ?_ ?_
  · simp only [SQ, SQB, zm, AOp.opds, step, Opd.get, zk, bin, zc, IntKind.signed, zi, zj, zl, zb, unary, ze, zd, za, zo, zr, zh, zf, zg, zp, Cp.isFull, isNil, zq, simprocAttr, SQX, V.cells, e1, e2, e3, tdiv16]
    rw [wrap_i64 (n := a + 1) (by omega) (by omega), wrap_i64 (n := ((x.s.size / 16 : Nat) : Int)) (by omega) (by omega), wrap_i64 (n := ((x.t.size / 16 : Nat) : Int)) (by omega) (by omega), wrap_i64 (n := a + 1 + ((x.s.size / 16 : Nat) : Int)) (by omega) (by omega), wrap_i64 (n := a + 1 + ((x.s.size / 16 : Nat) : Int) + ((x.t.size / 16 : Nat) : Int)) (by omega) (by omega)]
    exact ⟨_, rfl, by omega⟩
  rintro en2 h2 ⟨f3, ⟨a2, f1, ha3⟩, f2, rfl⟩
  have hsz := szN_eq x
  by_cases hd : 150 < d
  · simp only [SQ, SQB, zm, AOp.opds, step, Opd.get, zk, bin, zc, IntKind.signed, zi, zj, zl, zb, unary, ze, zd, za, zo, zr, zh, zf, zg, zp, Cp.isFull, isNil, zq, simprocAttr, SQX, V.cells, f1, f2, f3, hd]
    exact ⟨_, rfl, .inl (by decide)⟩
  simp only [SQ, SQB, zm, AOp.opds, step, Opd.get, zk, bin, zc, IntKind.signed, zi, zj, zl, zb, unary, ze, zd, za, zo, zr, zh, zf, zg, zp, Cp.isFull, isNil, zq, simprocAttr, SQX, V.cells, f1, f2, f3, hd]
  refine WpC_loopI (fun k en h' => ∃ i : Nat, k = x.l.length - i ∧ i ≤ x.l.length ∧ en 7 = V.int i ∧ en 3 = .eptr (ndC x lv) 0 ∧ (∃ a3 : Int, en 1 = .sc (.int .i64 a3) ∧ 0 ≤ a3 ∧ (1500 < a3 ∨ a + 1 + szL (x.l.take i) ≤ a3)) ∧ en 2 = .sc (.int .i64 d) ∧ h' = h2) x.l.length ⟨0, rfl, Nat.zero_le _, rfl, f3, ⟨_, f1, by omega, .inr (by simp only [List.take_zero, szL]; omega)⟩, f2, rfl⟩ ?_
  rintro k en h' ⟨i, rfl, hi, g7, g3, ⟨a3, g1, hp, hq⟩, g2, rfl⟩
  by_cases h1 : i < x.l.length
  · obtain ⟨r, hr1, hr2⟩ := hl.get h1
    obtain ⟨lv2, rfl, _⟩ := hr2.open
    by_cases h3 : a3 ≤ 1500
    · have hc := mx_child (List.getElem_mem h1)
      obtain ⟨m, hm2, hw⟩ := callD_ex (f := fun n : Int => V.sc (.int .i64 n)) (hm x.l[i] (List.getElem_mem h1) h'.length _ h' a3 (IntKind.i64.wrap (d + 1)) hr2 (by omega) hp h3)
      simp only [SQ, SQB, zm, AOp.opds, step, Opd.get, bin, zc, IntKind.signed, zj, zl, zb, unary, ze, zd, za, zo, zr, zh, zf, zg, zp, Cp.isFull, isNil, zq, simprocAttr, SQX, V.cells, g7, g3, g1, g2, ll, h1, h3, hr1, zC, zn hw]
      exact ⟨x.l.length - (i + 1), by omega, i + 1, rfl, by omega, by rw [wrap_i64 (by omega) (by omega)]; rfl, ⟨_, rfl, by omega, by rw [szL_take h1]; omega⟩⟩
    · simp only [SQ, SQB, zm, AOp.opds, step, Opd.get, bin, zc, IntKind.signed, zj, zl, zb, unary, ze, zd, za, zo, zr, zh, zf, zg, zp, Cp.isFull, isNil, zq, simprocAttr, SQX, V.cells, g7, g3, g1, g2, ll, h1, h3]
      exact ⟨_, rfl, by omega⟩
  · have : x.l.take i = x.l := List.take_of_length_le (by omega)
    rw [this] at hq
    simp only [SQ, SQB, zm, AOp.opds, step, Opd.get, bin, zc, IntKind.signed, zj, zl, zb, unary, ze, zd, za, zo, zr, zh, zf, zg, zp, Cp.isFull, isNil, zq, simprocAttr, SQX, V.cells, g7, g3, g1, g2, ll, h1]
    exact ⟨_, rfl, by omega⟩
theorem large_r {base : Nat} {x : Nd} {cs : List V} (h : Heap) (hv : NdV x cs) (hmx : mxN x ≤ 2 ^ 63) : WpF S0 base k_spinnakerlaw25_large [.agg cs] h fun v h' => (∃ b : Bool, v = .bool b ∧ (b = false → szN x ≤ 1500)) ∧ h' = h := by
  have hsz := fun base h => size_r _ x (Nat.le_refl _) base cs h 0 0 hv hmx (by decide) (by decide)
  obtain ⟨lv, rfl, hl⟩ := hv.open
  first | refine zu (A := f_spinnakerlaw25_large) rfl rfl rfl rfl ?_ | refine zB (A := f_spinnakerlaw25_large) rfl rfl rfl rfl ?_
  simp only [f_spinnakerlaw25_large, oD, cD]
  refine zw (fun en' h' => en' 1 = .eptr (ndC x lv) 0 ∧ h' = h) ?_ ?_
  · simp only [SQ, SQB, zm, AOp.opds, step, Opd.get, zk, bin, zc, IntKind.signed, zi, zj, zl, zb, unary, ze, zd, za, zo, zr, zh, zf, zg, zp, Cp.isFull, isNil, zq, simprocAttr, SQX, V.cells, hl.gr]
  rintro en1 h1 ⟨e1, rfl⟩
  obtain ⟨m, hm, hw⟩ := callD_ex (f := fun n : Int => V.sc (.int .i64 n)) (hsz h1.length h1)
  simp only [SQ, SQB, zm, AOp.opds, step, Opd.get, zk, bin, zc, IntKind.signed, zi, zj, zl, zb, unary, ze, zd, za, zo, zr, zh, zf, zg, zp, Cp.isFull, isNil, zq, simprocAttr, SQX, V.cells, e1, zC, zn hw]
  refine ⟨_, rfl, fun q => ?_⟩
  have := of_decide_eq_false q
  omega
end
section
def SlN (h : Heap) (v : V) (l : List ByteArray) : Prop :=
  l.length < 2 ^ 62 ∧ ((v = .sc (.slice none 0 0) ∧ l = []) ∨ (∃ ex, v = .slc ex 1 (l.map sv)) ∨ ∃ b e t, v = .hsl b e 0 l.length ∧ h[b]? = some (.row t 1 e (l.map sv)))
theorem SlN.len {h : Heap} {v : V} {l : List ByteArray} (q : SlN h v l) : zk v = some l.length := by
  rcases q.2 with ⟨rfl, rfl⟩ | ⟨ex, rfl⟩ | ⟨b, e, t, rfl, _⟩
  · rfl
  · simp [zk]
  · rfl
theorem SlN.get {h : Heap} {v : V} {l : List ByteArray} (q : SlN h v l) {i : Nat} (hi : i < l.length) : ∃ a, zi h 1 i v = some a ∧ zl h none a = some (.sc (.string l[i])) := by
  rcases q.2 with ⟨rfl, rfl⟩ | ⟨ex, rfl⟩ | ⟨b, e, t, rfl, hb⟩
  · simp at hi
  · exact ⟨.eptr (sv l[i]) 0, by simp [zi, hi], rfl⟩
  · refine ⟨.rptr b e i 0, by simp [zi, rowAt, hb, hi], ?_⟩
    simp [zl, rowAt, hb, hi, zb]
section
variable {base : Nat} {h : Heap} {v : V} {l : List ByteArray}
theorem inB_snoc (l : List ByteArray) (t s : ByteArray) : inB (l ++ [t]) s = (inB l s || decide (t = s)) := by
  unfold inB
  rw [List.any_append]
  simp [list_eq]
theorem inB_take {i : Nat} (hi : i < l.length) (s : ByteArray) : inB (l.take (i + 1)) s = (inB (l.take i) s || decide (l[i] = s)) := by
  rw [List.take_add_one, List.getElem?_eq_getElem hi]
  exact inB_snoc _ _ _
theorem inB_at {i : Nat} (hi : i < l.length) : inB l l[i] = true := (inB_iff _ _).2 (List.getElem_mem hi)
set_option maxHeartbeats 1000000 in
theorem inH_r (s : ByteArray) (hv : SlN h v l) : WpF S0 base k_spinnakerref22_In [v, .sc (.string s)] h fun r h' => r = .bool (inB l s) ∧ h' = h := by
  have ll := hv.len
  have lt := hv.1
  first | refine zu (A := f_spinnakerref22_In) rfl rfl rfl rfl ?_ | refine zB (A := f_spinnakerref22_In) rfl rfl rfl rfl ?_
  simp only [f_spinnakerref22_In, oD, cD]
  simp only [SQ, SQB, zm, AOp.opds, step, Opd.get, bin, zc, IntKind.signed, zi, zj, zl, zb, unary, ze, zd, za, zo, zr, zh, zf, zg, zp, Cp.isFull, isNil, zq, simprocAttr, SQX, V.cells]
  refine WpC_loopI (fun k en h' => ∃ i : Nat, k = l.length - i ∧ i ≤ l.length ∧ en 5 = V.int i ∧ en 0 = v ∧ en 1 = .sc (.string s) ∧ inB (l.take i) s = false ∧ h' = h) l.length ⟨0, rfl, Nat.zero_le _, rfl, rfl, rfl, rfl, rfl⟩ ?_
  rintro k en h' ⟨i, rfl, hi, e5, e0, e1, hno, rfl⟩
  by_cases h1 : i < l.length
  · obtain ⟨a, ha, hb⟩ := hv.get h1
    have hin := inB_take h1 s
    (simp only [SQ, zm, AOp.opds, step, Opd.get, bin, zc, IntKind.signed, zj, zb, unary, ze, zd, za, zo, zr, zh, zf, zg, zp, Cp.isFull, isNil, zq, simprocAttr, SQX, V.cells, e5, e0, e1, h1, ll, ha, hb, zE, list_eq]; repeat' ((first | refine condQ_i ?_ ?_ | refine guardQ_t ?_ ?_ | refine guardQ_f ?_ ?_) <;> (intro hb; simp only [SQ, zm, AOp.opds, step, Opd.get, bin, zc, IntKind.signed, zj, zb, unary, ze, zd, za, zo, zr, zh, zf, zg, zp, Cp.isFull, isNil, zq, simprocAttr, SQX, V.cells, hb, e5, e0, e1, h1, ll, ha, hb, zE, list_eq])))
    · have := of_decide_eq_true (by assumption)
      rw [← this, inB_at h1]
    · refine ⟨l.length - (i + 1), by omega, i + 1, rfl, by omega, by rw [wrap_i64 (by omega) (by omega)]; rfl, ?_⟩
      simp_all
  · simp only [SQ, SQB, zm, AOp.opds, step, Opd.get, bin, zc, IntKind.signed, zj, zb, unary, ze, zd, za, zo, zr, zh, zf, zg, zp, Cp.isFull, isNil, zq, simprocAttr, SQX, V.cells, e5, e0, h1, ll]
    have : l.take i = l := List.take_of_length_le (by omega)
    rw [← hno, this]
set_option maxHeartbeats 1000000 in
theorem indexH_r (s : ByteArray) (hv : SlN h v l) : WpF S0 base k_slices_Indexstringstring [v, .sc (.string s)] h fun r h' => (∃ n : Int, r = .sc (.int .i64 n) ∧ (decide (0 ≤ n)) = inB l s) ∧ h' = h := by
  have ll := hv.len
  have lt := hv.1
  first | refine zu (A := f_slices_Indexstringstring) rfl rfl rfl rfl ?_ | refine zB (A := f_slices_Indexstringstring) rfl rfl rfl rfl ?_
  simp only [f_slices_Indexstringstring, oD, cD]
  simp only [SQ, SQB, zm, AOp.opds, step, Opd.get, bin, zc, IntKind.signed, zi, zj, zl, zb, unary, ze, zd, za, zo, zr, zh, zf, zg, zp, Cp.isFull, isNil, zq, simprocAttr, SQX, V.cells, ll]
  refine WpC_loopI (fun k en h' => ∃ i : Nat, k = l.length - i ∧ i ≤ l.length ∧ en 8 = V.int i ∧ en 7 = V.int l.length ∧ en 0 = v ∧ en 1 = .sc (.string s) ∧ inB (l.take i) s = false ∧ h' = h) l.length ⟨0, rfl, Nat.zero_le _, rfl, rfl, rfl, rfl, rfl, rfl⟩ ?_
  rintro k en h' ⟨i, rfl, hi, e8, e7, e0, e1, hno, rfl⟩
  by_cases h1 : i < l.length
  · obtain ⟨a, ha, hb⟩ := hv.get h1
    have hin := inB_take h1 s
    (simp only [SQ, zm, AOp.opds, step, Opd.get, bin, zc, IntKind.signed, zj, zb, unary, ze, zd, za, zo, zr, zh, zf, zg, zp, Cp.isFull, isNil, zq, simprocAttr, SQX, V.cells, e8, e7, e0, e1, h1, ha, hb, zE, list_eq]; repeat' ((first | refine condQ_i ?_ ?_ | refine guardQ_t ?_ ?_ | refine guardQ_f ?_ ?_) <;> (intro hb; simp only [SQ, zm, AOp.opds, step, Opd.get, bin, zc, IntKind.signed, zj, zb, unary, ze, zd, za, zo, zr, zh, zf, zg, zp, Cp.isFull, isNil, zq, simprocAttr, SQX, V.cells, hb, e8, e7, e0, e1, h1, ha, hb, zE, list_eq])))
    · have := of_decide_eq_true (by assumption)
      subst this
      rw [inB_at h1]
      exact ⟨i, rfl, by simp⟩
    · refine ⟨l.length - (i + 1), by omega, i + 1, rfl, by omega, by rw [wrap_i64 (by omega) (by omega)]; rfl, ?_⟩
      rw [hin, hno]
      have := of_decide_eq_false (by assumption)
      simpa using fun q => this q.symm
  · simp only [SQ, SQB, zm, AOp.opds, step, Opd.get, bin, zc, IntKind.signed, zj, zb, unary, ze, zd, za, zo, zr, zh, zf, zg, zp, Cp.isFull, isNil, zq, simprocAttr, SQX, V.cells, e8, e7, e0, h1]
    have : l.take i = l := List.take_of_length_le (by omega)
    rw [this] at hno
    rw [hno]
    exact ⟨-1, rfl, by decide⟩
theorem containsH_r (s : ByteArray) (hv : SlN h v l) : WpF S0 base k_slices_Containsstringstring [v, .sc (.string s)] h fun r h' => r = .bool (inB l s) ∧ h' = h := by
  first | refine zu (A := f_slices_Containsstringstring) rfl rfl rfl rfl ?_ | refine zB (A := f_slices_Containsstringstring) rfl rfl rfl rfl ?_
  obtain ⟨n, hn, hw⟩ := callD_ex (indexH_r (base := h.length) s hv)
  simp only [f_slices_Containsstringstring, oD, cD]
  simp only [SQ, SQB, zm, AOp.opds, step, Opd.get, zk, bin, zc, IntKind.signed, zi, zj, zl, zb, unary, ze, zd, za, zo, zr, zh, zf, zg, zp, Cp.isFull, isNil, zq, simprocAttr, SQX, V.cells, zn hw, hn]
end
mutual
def callsN : Nd → List ByteArray → List ByteArray
  | .mk k _ t _ _ _ l, out => callsL l (if k = 18 ∧ inB out t = false then out ++ [t] else out)
def callsL : List Nd → List ByteArray → List ByteArray
  | [], out => out
  | y :: r, out => callsL r (callsN y out)
end
theorem callsN_eq (y : Nd) (out : List ByteArray) : callsN y out = callsL y.l (if y.kind = 18 ∧ inB out y.t = false then out ++ [y.t] else out) := by cases y; rfl
theorem callsL_fold : ∀ (l : List Nd) (out : List ByteArray), callsL l out = l.foldl (fun o y => callsN y o) out
  | [], _ => rfl
  | y :: r, out => by simp only [callsL, List.foldl_cons, callsL_fold r]
theorem callsL_take {l : List Nd} {i : Nat} (hi : i < l.length) (out : List ByteArray) : callsL (l.take (i + 1)) out = callsN l[i] (callsL (l.take i) out) := by
  rw [callsL_fold, callsL_fold, foldl_take hi]
mutual
theorem callsN_len : ∀ (y : Nd) (out : List ByteArray), (callsN y out).length ≤ out.length + szN y
  | .mk k s t n o ln l, out => by
    have := callsL_len l (if k = 18 ∧ inB out t = false then out ++ [t] else out)
    simp only [callsN, szN]
    have h2 : (if k = 18 ∧ inB out t = false then out ++ [t] else out).length ≤ out.length + 1 := by split <;> simp
    omega
theorem callsL_len : ∀ (l : List Nd) (out : List ByteArray), (callsL l out).length ≤ out.length + szL l
  | [], out => by simp [callsL, szL]
  | y :: r, out => by
    have h1 := callsL_len r (callsN y out)
    have h2 := callsN_len y out
    simp only [callsL, szL]
    omega
end
def OwnAt (h : Heap) (v : V) (l : List ByteArray) (H : Heap) : Prop := (v = .sc (.slice none 0 0) ∧ l = [] ∧ H = h) ∨ ∃ e, v = .hsl h.length e 0 l.length ∧ H = h ++ [.row 9 1 e (l.map sv)]
theorem OwnAt.sl {h : Heap} {v : V} {l : List ByteArray} {H : Heap} (q : OwnAt h v l H) (hl : l.length < 2 ^ 62) : SlN H v l := by
  refine ⟨hl, ?_⟩
  rcases q with ⟨rfl, rfl, rfl⟩ | ⟨e, rfl, rfl⟩
  · exact .inl ⟨rfl, rfl⟩
  · exact .inr (.inr ⟨_, _, 9, rfl, by simp⟩)
theorem OwnAt.app {base : Nat} {h : Heap} {v : V} {l : List ByteArray} {H : Heap} (q : OwnAt h v l H) (s : ByteArray) (hl : l.length + 1 ≤ lim) : ∃ v' H', appendV base H 9 1 v [[.sc (.string s)]] = some (v', H') ∧ OwnAt h v' (l ++ [s]) H' := by
  rcases q with ⟨rfl, rfl, rfl⟩ | ⟨e, rfl, rfl⟩
  · refine ⟨_, _, ?_, .inr ⟨0, rfl, rfl⟩⟩
    simp [appendV, lim, newOk, zm]
  · refine ⟨_, _, ?_, .inr ⟨e + 1, rfl, rfl⟩⟩
    have : List.take l.length (List.map sv l) = List.map sv l := List.take_of_length_le (by simp)
    simp [appendV, newOk, zm, mayStore, refsLts, refsLt, hl, this]
def CallsOk (f : FuncId) (y : Nd) : Prop := ∀ (base : Nat) (cs : List V) (h H : Heap) (v : V) (l : List ByteArray), NdV y cs → OwnAt h v l H → l.length + szN y ≤ lim → WpF S0 base f [.agg cs, v] H fun v' H' => OwnAt h v' (callsN y l) H'
theorem take1 {a : List V} : [a].take 1 = [a] := rfl
set_option maxHeartbeats 2000000 in
theorem calls_r (n : Nat) : ∀ (y : Nd), szN y ≤ n → CallsOk k_check_calls y := by
  refine n.rec (fun x hn => ?_) (fun n ih y hn => ?_)
  · cases x; simp [szN] at hn
  have hm : ∀ z ∈ y.l, CallsOk k_check_calls z := fun z hz => ih z (by have := sz_child hz; omega)
  intro base cs h H v l hv hown hlim
  obtain ⟨lw, rfl, hl⟩ := hv.open
  have ll := hl.len
  have lt := hl.lt
  have hsz := szN_eq y
  have hlm : lim = 2 ^ 36 := rfl
  first | refine zu (A := f_check_calls) rfl rfl rfl rfl ?_ | refine zB (A := f_check_calls) rfl rfl rfl rfl ?_
  simp only [f_check_calls, oD, cD]
  refine zw (fun en' h' => en' 2 = .eptr (ndC y lw) 0 ∧ en' 1 = v ∧ h' = H) ?_ ?_
  · simp only [SQ, SQB, zm, AOp.opds, step, Opd.get, zk, bin, zc, IntKind.signed, zi, zj, zl, zb, unary, ze, zd, za, zo, zr, zh, zf, zg, zp, Cp.isFull, isNil, zq, simprocAttr, SQX, V.cells, hl.gr]
  rintro en1 h1 ⟨e2, e1, rfl⟩
  refine zw (fun en' h' => en' 2 = .eptr (ndC y lw) 0 ∧ OwnAt h (en' 1) (if y.kind = 18 ∧ inB l y.t = false then l ++ [y.t] else l) h') ?_ ?_
  · have hc := fun base => containsH_r (base := base) y.t (hown.sl (by omega))
    obtain ⟨v', H', ha, hown'⟩ := hown.app (base := base) y.t (by omega)
    (simp only [SQ, zm, AOp.opds, step, Opd.get, zk, bin, zc, IntKind.signed, zi, zj, zl, zb, unary, ze, zd, za, zo, zr, zh, zf, zg, zp, Cp.isFull, isNil, zq, simprocAttr, SQX, V.cells, e2, e1, zn (hc _), getParts2, zv, List.replicate, ground, srcRows, elems, ha, List.set_cons_zero, List.isEmpty_cons]; repeat' ((first | refine condQ_i ?_ ?_ | refine guardQ_t ?_ ?_ | refine guardQ_f ?_ ?_) <;> (intro hb; simp only [SQ, zm, AOp.opds, step, Opd.get, zk, bin, zc, IntKind.signed, zi, zj, zl, zb, unary, ze, zd, za, zo, zr, zh, zf, zg, zp, Cp.isFull, isNil, zq, simprocAttr, SQX, V.cells, hb, e2, e1, zn (hc _), getParts2, zv, List.replicate, ground, srcRows, elems, ha, List.set_cons_zero, List.isEmpty_cons])))
    all_goals simp_all
  rintro en2 h2 ⟨f2, f1⟩
  have hlen : (if y.kind = 18 ∧ inB l y.t = false then l ++ [y.t] else l).length ≤ l.length + 1 := by split <;> simp
  have hfin := callsN_eq y l
  generalize (if y.kind = 18 ∧ inB l y.t = false then l ++ [y.t] else l) = l2 at f1 hlen hfin
  simp only [SQ, SQB, zm, AOp.opds, step, Opd.get, bin, zc, IntKind.signed, zi, zj, zl, zb, unary, ze, zd, za, zo, zr, zh, zf, zg, zp, Cp.isFull, isNil, zq, simprocAttr, SQX, V.cells, f2, ll]
  refine WpC_loopI (fun k en h' => ∃ i : Nat, k = y.l.length - i ∧ i ≤ y.l.length ∧ en 25 = V.int i ∧ en 24 = V.int y.l.length ∧ en 23 = lw ∧ OwnAt h (en 1) (callsL (y.l.take i) l2) h') y.l.length ⟨0, rfl, Nat.zero_le _, rfl, rfl, rfl, f1⟩ ?_
  rintro k en h' ⟨i, rfl, hi, i25, i24, i23, i1⟩
  by_cases hh : i < y.l.length
  · obtain ⟨r, hr1, hr2⟩ := hl.get hh
    obtain ⟨lv2, rfl, hl2⟩ := hr2.open
    have hlen2 := callsL_len (y.l.take i) l2
    have hlen3 := szL_take hh
    have hlen4 : szL (y.l.take (i + 1)) ≤ szL y.l := by
      rw [szL_eq, szL_eq]
      conv => rhs; rw [← List.take_append_drop (i + 1) y.l]
      rw [List.map_append, List.sum_append]; omega
    have hwi := fun base => hm y.l[i] (List.getElem_mem hh) base _ h h' (en 1) _ hr2 i1 (by omega)
    simp only [SQ, SQB, zm, AOp.opds, step, Opd.get, bin, zc, IntKind.signed, zj, zl, zb, unary, ze, zd, za, zo, zr, zh, zf, zg, zp, Cp.isFull, isNil, zq, simprocAttr, SQX, V.cells, i25, i24, i23, hh, hr1, zC, hl2.gr, callD_some]
    refine (hwi _).mono ?_
    intro v' H' hown'
    refine ⟨y.l.length - (i + 1), by omega, i + 1, rfl, by omega, by rw [wrap_i64 (by omega) (by omega)]; rfl, by rw [callsL_take hh]; exact hown'⟩
  · have : y.l.take i = y.l := List.take_of_length_le (by omega)
    rw [this, ← hfin] at i1
    simp only [SQ, SQB, zm, AOp.opds, step, Opd.get, bin, zc, IntKind.signed, zj, zl, zb, unary, ze, zd, za, zo, zr, zh, zf, zg, zp, Cp.isFull, isNil, zq, simprocAttr, SQX, V.cells, i25, i24, i23, hh]
    exact i1
set_option maxHeartbeats 2000000 in
theorem refCalls_r (n : Nat) : ∀ (y : Nd), szN y ≤ n → CallsOk k_spinnakerref25_Calls y := by
  refine n.rec (fun x hn => ?_) (fun n ih y hn => ?_)
  · cases x; simp [szN] at hn
  have hm : ∀ z ∈ y.l, CallsOk k_spinnakerref25_Calls z := fun z hz => ih z (by have := sz_child hz; omega)
  intro base cs h H v l hv hown hlim
  obtain ⟨lw, rfl, hl⟩ := hv.open
  have ll := hl.len
  have lt := hl.lt
  have hsz := szN_eq y
  have hlm : lim = 2 ^ 36 := rfl
  first | refine zu (A := f_spinnakerref25_Calls) rfl rfl rfl rfl ?_ | refine zB (A := f_spinnakerref25_Calls) rfl rfl rfl rfl ?_
  simp only [f_spinnakerref25_Calls, oD, cD]
  refine zw (fun en' h' => en' 2 = .eptr (ndC y lw) 0 ∧ en' 1 = v ∧ h' = H) ?_ ?_
  · simp only [SQ, SQB, zm, AOp.opds, step, Opd.get, zk, bin, zc, IntKind.signed, zi, zj, zl, zb, unary, ze, zd, za, zo, zr, zh, zf, zg, zp, Cp.isFull, isNil, zq, simprocAttr, SQX, V.cells, hl.gr]
  rintro en1 h1 ⟨e2, e1, rfl⟩
  refine zw (fun en' h' => en' 2 = .eptr (ndC y lw) 0 ∧ OwnAt h (en' 1) (if y.kind = 18 ∧ inB l y.t = false then l ++ [y.t] else l) h') ?_ ?_
  · have hc := fun base => inH_r (base := base) y.t (hown.sl (by omega))
    obtain ⟨v', H', ha, hown'⟩ := hown.app (base := base) y.t (by omega)
    (simp only [SQ, zm, AOp.opds, step, Opd.get, zk, bin, zc, IntKind.signed, zi, zj, zl, zb, unary, ze, zd, za, zo, zr, zh, zf, zg, zp, Cp.isFull, isNil, zq, simprocAttr, SQX, V.cells, e2, e1, zn (hc _), getParts2, zv, List.replicate, ground, srcRows, elems, ha, List.set_cons_zero, List.isEmpty_cons]; repeat' ((first | refine condQ_i ?_ ?_ | refine guardQ_t ?_ ?_ | refine guardQ_f ?_ ?_) <;> (intro hb; simp only [SQ, zm, AOp.opds, step, Opd.get, zk, bin, zc, IntKind.signed, zi, zj, zl, zb, unary, ze, zd, za, zo, zr, zh, zf, zg, zp, Cp.isFull, isNil, zq, simprocAttr, SQX, V.cells, hb, e2, e1, zn (hc _), getParts2, zv, List.replicate, ground, srcRows, elems, ha, List.set_cons_zero, List.isEmpty_cons])))
    all_goals simp_all
  rintro en2 h2 ⟨f2, f1⟩
  have hlen : (if y.kind = 18 ∧ inB l y.t = false then l ++ [y.t] else l).length ≤ l.length + 1 := by split <;> simp
  have hfin := callsN_eq y l
  generalize (if y.kind = 18 ∧ inB l y.t = false then l ++ [y.t] else l) = l2 at f1 hlen hfin
  simp only [SQ, SQB, zm, AOp.opds, step, Opd.get, bin, zc, IntKind.signed, zi, zj, zl, zb, unary, ze, zd, za, zo, zr, zh, zf, zg, zp, Cp.isFull, isNil, zq, simprocAttr, SQX, V.cells, f2, ll]
  refine WpC_loopI (fun k en h' => ∃ i : Nat, k = y.l.length - i ∧ i ≤ y.l.length ∧ en 5 = V.int i ∧ en 2 = .eptr (ndC y lw) 0 ∧ OwnAt h (en 1) (callsL (y.l.take i) l2) h') y.l.length ⟨0, rfl, Nat.zero_le _, rfl, f2, f1⟩ ?_
  rintro k en h' ⟨i, rfl, hi, i5, i2, i1⟩
  by_cases hh : i < y.l.length
  · obtain ⟨r, hr1, hr2⟩ := hl.get hh
    obtain ⟨lv2, rfl, hl2⟩ := hr2.open
    have hlen2 := callsL_len (y.l.take i) l2
    have hlen3 := szL_take hh
    have hlen4 : szL (y.l.take (i + 1)) ≤ szL y.l := by
      rw [szL_eq, szL_eq]
      conv => rhs; rw [← List.take_append_drop (i + 1) y.l]
      rw [List.map_append, List.sum_append]; omega
    have hwi := fun base => hm y.l[i] (List.getElem_mem hh) base _ h h' (en 1) _ hr2 i1 (by omega)
    simp only [SQ, SQB, zm, AOp.opds, step, Opd.get, bin, zc, IntKind.signed, zj, zl, zb, unary, ze, zd, za, zo, zr, zh, zf, zg, zp, Cp.isFull, isNil, zq, simprocAttr, SQX, V.cells, i5, i2, ll, hh, hr1, zC, hl2.gr, callD_some]
    refine (hwi _).mono ?_
    intro v' H' hown'
    refine ⟨y.l.length - (i + 1), by omega, i + 1, rfl, by omega, by rw [wrap_i64 (by omega) (by omega)]; rfl, by rw [callsL_take hh]; exact hown'⟩
  · have : y.l.take i = y.l := List.take_of_length_le (by omega)
    rw [this, ← hfin] at i1
    simp only [SQ, SQB, zm, AOp.opds, step, Opd.get, bin, zc, IntKind.signed, zj, zl, zb, unary, ze, zd, za, zo, zr, zh, zf, zg, zp, Cp.isFull, isNil, zq, simprocAttr, SQX, V.cells, i5, i2, ll, hh]
    exact i1
end
section
theorem callD_exh {α : Type} {S : Fns} {base : Nat} {k : FuncId} {vs : List V} {h : Heap} {p : α → Prop} {f : α → V} {g : α → Heap} (hw : WpF S base k vs h fun v h' => ∃ a, v = f a ∧ h' = g a ∧ p a) : ∃ a, p a ∧ WpF S base k vs h fun v h' => v = f a ∧ h' = g a :=
  let ⟨n, v, h', e, a, hv, hh, hp⟩ := hw
  ⟨a, hp, n, v, h', e, hv, hh⟩
def bgH (h : Heap) (x : Nd) (lv : V) (mg : List (ByteArray × Int)) (mp : List (ByteArray × V)) (e : Er) : Heap := h ++ [.mmap (mg.map mEnt), .mmap (mp.map mEntV), .box 49 (ckC x lv h.length (h.length + 1) e)]
section
variable {h : Heap} {x : Nd} {lv : V} {mg mg' : List (ByteArray × Int)} {mp mp' : List (ByteArray × V)} {e e' : Er}
theorem bgH_0 : (bgH h x lv mg mp e)[h.length]? = some (.mmap (mg.map mEnt)) := by simp [bgH]
theorem bgH_1 : (bgH h x lv mg mp e)[h.length + 1]? = some (.mmap (mp.map mEntV)) := by simp [bgH, List.getElem?_append_right]
theorem bgH_2 : (bgH h x lv mg mp e)[h.length + 1 + 1]? = some (.box 49 (ckC x lv h.length (h.length + 1) e)) := by
  rw [bgH, List.getElem?_append_right (by omega), show h.length + 1 + 1 - h.length = 2 by omega]; rfl
theorem bgH_s0 : (bgH h x lv mg mp e).set h.length (.mmap (mg'.map mEnt)) = bgH h x lv mg' mp e := by
  rw [bgH, List.set_append_right _ _ (by omega), show h.length - h.length = 0 by omega]; rfl
theorem bgH_s1 : (bgH h x lv mg mp e).set (h.length + 1) (.mmap (mp'.map mEntV)) = bgH h x lv mg mp' e := by
  rw [bgH, List.set_append_right _ _ (by omega), show h.length + 1 - h.length = 1 by omega]; rfl
theorem bgH_s2 : (bgH h x lv mg mp e).set (h.length + 1 + 1) (.box 49 (ckC x lv h.length (h.length + 1) e')) = bgH h x lv mg mp e' := by
  rw [bgH, List.set_append_right _ _ (by omega), show h.length + 1 + 1 - h.length = 2 by omega]; rfl
theorem bgH_take : (bgH h x lv mg mp e).take h.length = h := by simp [bgH]
theorem bgH_new : h ++ [.mmap []] ++ [.mmap []] ++ [.box 49 (ckC x lv h.length (h.length + 1) e)] = bgH h x lv [] [] e := by simp [bgH]
end
theorem gStep_eq (s : ByteArray) (a : Int) (y : Nd) : gStep s a y = if s = y.s then (if y.kind = 2 then 3 else if y.kind = 3 then 4 else a) else a := by
  unfold gStep
  simp only [list_eq, decide_eq_true_eq]
  by_cases h : y.s = s
  · rw [if_pos h, if_pos h.symm]
  · rw [if_neg h, if_neg (fun q => h q.symm)]
theorem procN_take {l : List Nd} {i : Nat} (hi : i < l.length) (t : ByteArray) : procN (l.take (i + 1)) t = if l[i].kind = 3 ∧ l[i].s = t then l[i] else procN (l.take i) t := foldl_take hi
theorem globN_take {l : List Nd} {i : Nat} (hi : i < l.length) (s : ByteArray) : globN s (l.take (i + 1)) = gStep s (globN s (l.take i)) l[i] := foldl_take hi
abbrev nd0 : List V := [.sc (.int .i64 0), .sc (.string ⟨#[]⟩), .sc (.string ⟨#[]⟩), .sc (.int .i64 0), .sc (.int .i64 0), .sc (.int .i64 0), .sc (.slice none 0 0), .sc (.map none), .sc (.map none), .sc (.int .i64 0), .sc (.int .i64 0)]
theorem oneCell_sc {v : Value} : zm (.sc v) = true := rfl
theorem oneCell_mp {b : Nat} : zm (.mp b) = true := rfl
theorem fillBg {x : Nd} {lv : V} (hl : zm lv = true) (a b : Nat) : fillParts nd0 [(0, 7, .agg (ndC x lv)), (7, 1, .mp a), (8, 1, .mp b)] = some (ckC x lv a b (0, 0)) := by
  simp only [fillParts, V.cells, List.all_cons, List.all_nil, oneCell_sc, oneCell_mp, hl]
  rfl
theorem LV.ref {lv : V} {l : List Nd} (h : LV lv l) (n : Nat) : refsLt n lv = true := by
  rcases h with ⟨rfl, _⟩ | ⟨_, _, rfl, _⟩ <;> rfl
set_option maxHeartbeats 4000000 in
theorem begin_r {base : Nat} {x : Nd} {lv : V} (h : Heap) (hl : LV lv x.l) : WpF S0 base k_check_begin [.agg (ndC x lv)] h fun v h' => ∃ m : List (ByteArray × Int) × List (ByteArray × V), v = .ptr (h.length + 1 + 1) 0 ∧ h' = bgH h x lv m.1 m.2 (0, 0) ∧ ((∀ s, getI m.1 s = globN s x.l) ∧ ProcM x.l m.2) := by
  have ll := hl.len
  have lt := hl.lt
  first | refine zu (A := f_check_begin) rfl rfl rfl rfl ?_ | refine zB (A := f_check_begin) rfl rfl rfl rfl ?_
  simp only [f_check_begin, oD, cD]
  refine zw (fun en' h' => en' 1 = .eptr (ndC x lv) 0 ∧ h' = h) ?_ ?_
  · simp only [SQ, SQB, zm, AOp.opds, step, Opd.get, zk, bin, zc, IntKind.signed, zi, zj, zl, zb, unary, ze, zd, za, zo, zr, zh, zf, zg, zp, Cp.isFull, isNil, zq, simprocAttr, SQX, V.cells, hl.gr]
  rintro en1 h1 ⟨e1, rfl⟩
  refine zw (fun en' h' => en' 1 = .eptr (ndC x lv) 0 ∧ en' 3 = .ptr (h1.length + 1 + 1) 0 ∧ h' = bgH h1 x lv [] [] (0, 0)) ?_ ?_
  · simp only [SQ, SQB, AOp.opds, step, Opd.get, zk, bin, zc, IntKind.signed, zi, zj, zl, zb, unary, ze, zd, za, zo, zr, zh, zf, zg, zp, Cp.isFull, isNil, zq, simprocAttr, SQX, V.cells, e1, zC, getParts, List.length_append, fillBg hl.one, hl.one, bgH_new, oneCell_sc, oneCell_mp]
  rintro en2 h2 ⟨f1, f3, rfl⟩
  refine zw (fun en' h' => en' 3 = .ptr (h1.length + 1 + 1) 0 ∧ ∃ m : List (ByteArray × Int) × List (ByteArray × V), h' = bgH h1 x lv m.1 m.2 (0, 0) ∧ ((∀ s, getI m.1 s = globN s x.l) ∧ ProcM x.l m.2)) ?_ ?_
  · simp only [SQ, SQB, zm, AOp.opds, step, Opd.get, bin, zc, IntKind.signed, zi, zj, zl, zb, unary, ze, zd, za, zo, zr, zh, zf, zg, zp, Cp.isFull, isNil, zq, simprocAttr, SQX, V.cells, f1, f3, ll]
    refine WpC_loopI (fun k en h' => ∃ i : Nat, k = x.l.length - i ∧ i ≤ x.l.length ∧ en 14 = V.int i ∧ en 13 = V.int x.l.length ∧ en 12 = lv ∧ en 3 = .ptr (h1.length + 1 + 1) 0 ∧ ∃ m : List (ByteArray × Int) × List (ByteArray × V), h' = bgH h1 x lv m.1 m.2 (0, 0) ∧ ((∀ s, getI m.1 s = globN s (x.l.take i)) ∧ ProcM (x.l.take i) m.2)) x.l.length
      ⟨0, rfl, Nat.zero_le _, rfl, rfl, rfl, f3, ([], []), rfl, fun s => rfl, fun t => ⟨_, rfl, .inl ⟨rfl, rfl⟩⟩⟩ ?_
    rintro k en h' ⟨i, rfl, hi, i14, i13, i12, i3, ⟨mg, mp⟩, rfl, hmg, hmp⟩
    by_cases hh : i < x.l.length
    · obtain ⟨r, hr1, hr2⟩ := hl.get hh
      obtain ⟨lv2, rfl, hl2⟩ := hr2.open
      have hc := bgH_2 (h := h1) (x := x) (lv := lv) (mg := mg) (mp := mp) (e := (0, 0))
      have hu0 := fun (s : ByteArray) (n : Int) => upd_b (base := base) s n (bgH_0 (h := h1) (x := x) (lv := lv) (mg := mg) (mp := mp) (e := (0, 0)))
      have hc2 := fun (mg : List (ByteArray × Int)) => bgH_2 (h := h1) (x := x) (lv := lv) (mg := mg) (mp := mp) (e := (0, 0))
      have hu1 := fun (mg : List (ByteArray × Int)) (s : ByteArray) => upd_bV (base := base) s (.agg (ndC x.l[i] lv2)) (bgH_1 (h := h1) (x := x) (lv := lv) (mg := mg) (mp := mp) (e := (0, 0))) (by simp only [V.cells, List.all_cons, List.all_nil, oneCell_sc, hl2.one, Bool.and_true]) (by simp [mayStore, refsLts, refsLt, hl2.ref])
      (simp only [SQ, zm, AOp.opds, step, Opd.get, bin, zc, IntKind.signed, zj, zl, zb, unary, ze, zd, za, zo, zr, zh, zf, zg, zp, Cp.isFull, isNil, zq, simprocAttr, SQX, V.cells, i14, i13, i12, i3, hh, hr1, zC, hl2.gr, hc, hc2, hu0, hu1, bgH_s0, bgH_s1]; repeat' ((first | refine condQ_i ?_ ?_ | refine guardQ_t ?_ ?_ | refine guardQ_f ?_ ?_) <;> (intro hb; simp only [SQ, zm, AOp.opds, step, Opd.get, bin, zc, IntKind.signed, zj, zl, zb, unary, ze, zd, za, zo, zr, zh, zf, zg, zp, Cp.isFull, isNil, zq, simprocAttr, SQX, V.cells, hb, i14, i13, i12, i3, hh, hr1, zC, hl2.gr, hc, hc2, hu0, hu1, bgH_s0, bgH_s1])))
      all_goals refine ⟨x.l.length - (i + 1), by omega, i + 1, rfl, by omega, by rw [wrap_i64 (by omega) (by omega)]; rfl, ?_⟩
      all_goals clear hu0 hu1 hr1 hr2 hc hc2
      · refine ⟨(_, _), rfl, fun s => ?_, fun t => ?_⟩
        · have k2 := of_decide_eq_true hb
          rw [get_put, globN_take hh, gStep_eq, hmg, if_pos k2]
        · have k2 := of_decide_eq_true hb
          rw [procN_take hh, if_neg (fun q => by omega)]
          exact hmp t
      · rename_i hb1
        have k2 := of_decide_eq_false hb1
        have k3 := of_decide_eq_true hb
        refine ⟨(_, _), rfl, fun s => ?_, fun t => ?_⟩
        · rw [get_put, globN_take hh, gStep_eq, hmg, if_neg k2, if_pos k3]
        · rw [getV_put, procN_take hh]
          by_cases q : t = x.l[i].s
          · rw [if_pos q, if_pos ⟨k3, q.symm⟩]
            exact ⟨lv2, rfl, hl2⟩
          · rw [if_neg q, if_neg (fun w => q w.2.symm)]
            exact hmp t
      · rename_i hb1
        have k2 := of_decide_eq_false hb1
        have k3 := of_decide_eq_false hb
        refine ⟨(mg, mp), rfl, fun s => ?_, fun t => ?_⟩
        · rw [globN_take hh, gStep_eq, hmg, if_neg k2, if_neg k3, ite_self]
        · rw [procN_take hh, if_neg (fun q => k3 q.1)]
          exact hmp t
    · have : x.l.take i = x.l := List.take_of_length_le (by omega)
      rw [this] at hmg hmp
      simp only [SQ, SQB, zm, AOp.opds, step, Opd.get, bin, zc, IntKind.signed, zj, zl, zb, unary, ze, zd, za, zo, zr, zh, zf, zg, zp, Cp.isFull, isNil, zq, simprocAttr, SQX, V.cells, i14, i13, i12, i3, hh]
      exact ⟨(mg, mp), rfl, hmg, hmp⟩
  rintro en3 h3 ⟨g3, m, rfl, hm⟩
  simp only [SQ, SQB, zm, AOp.opds, step, Opd.get, zk, bin, zc, IntKind.signed, zi, zj, zl, zb, unary, ze, zd, za, zo, zr, zh, zf, zg, zp, Cp.isFull, isNil, zq, simprocAttr, SQX, V.cells, g3]
  exact ⟨m, rfl, hm⟩
theorem kOf_kind {ms mg : List (ByteArray × Int)} {s : ByteArray} {p x : Nd} (h1 : getI ms s = locN s x) (h2 : getI mg s = globN s p.l) : kOf ms mg s = kindN s p x := by
  unfold kOf kindN
  rw [h1, h2]
def itemAt (x : Nd) (i : Int) : Nd := x.l.getD i.toNat zN
theorem isItem_no {x : Nd} {i : Int} (h : isItem x i = true) : ∃ (n : Nat) (hh : n < x.l.length), i = n ∧ okK zA 1 1 x = true ∧ x.l[n].kind ≠ 2 ∧ itemAt x i = x.l[n] := by
  simp only [isItem, Bool.and_eq_true, decide_eq_true_eq] at h
  obtain ⟨⟨h1, h2⟩, h3⟩ := h
  have hh : i.toNat < x.l.length := by omega
  rw [List.getElem?_eq_getElem hh] at h3
  refine ⟨i.toNat, hh, by omega, h1, of_decide_eq_true h3, ?_⟩
  simp [itemAt, hh]
theorem LV.nd {x : Nd} {lv : V} (h : LV lv x.l) : NdV x (ndC x lv) := by
  cases x with
  | mk k s t n o ln l =>
    refine ⟨lv, rfl, ?_⟩
    rcases h with ⟨q1, q2⟩ | q
    · simp only [Nd.l] at q2
      subst q2
      exact .inl ⟨q1, by simp [NdR]⟩
    · exact .inr q
set_option maxHeartbeats 2000000 in
theorem ckKind_r {base : Nat} {x : Nd} {lv : V} (i : Int) (s : ByteArray) (h : Heap) (hl : LV lv x.l) : WpF S0 base k_check_Kind [.agg (ndC x lv), .sc (.int .i64 i), .sc (.string s)] h fun v h' => v = .sc (.int .i64 (if isItem x i then kindN s x (itemAt x i) else 0)) ∧ h' = h := by
  have hv := hl.nd
  cases hi : isItem x i
  · have hno := fun base h => citem_no (base := base) i h hv hl hi
    first | refine zu (A := f_check_Kind) rfl rfl rfl rfl ?_ | refine zB (A := f_check_Kind) rfl rfl rfl rfl ?_
    simp only [f_check_Kind, oD, cD]
    simp only [SQ, SQB, zm, AOp.opds, step, Opd.get, zk, bin, zc, IntKind.signed, zi, zj, zl, zb, unary, ze, zd, za, zo, zr, zh, zf, zg, zp, Cp.isFull, isNil, zq, simprocAttr, SQX, V.cells, hl.gr, zC, zn (hno _ _)]
  · obtain ⟨n, hh, rfl, hm, hk, hat⟩ := isItem_no hi
    have hyes := fun base h => citem_yes (base := base) n h hv hl hh hm hk
    rw [hat]
    first | refine zu (A := f_check_Kind) rfl rfl rfl rfl ?_ | refine zB (A := f_check_Kind) rfl rfl rfl rfl ?_
    simp only [f_check_Kind, oD, cD]
    refine zw (fun en' h' => en' 3 = .eptr (ndC x lv) 0 ∧ en' 1 = .sc (.int .i64 n) ∧ en' 2 = .sc (.string s) ∧ h' = h) ?_ ?_
    · simp only [SQ, SQB, zm, AOp.opds, step, Opd.get, zk, bin, zc, IntKind.signed, zi, zj, zl, zb, unary, ze, zd, za, zo, zr, zh, zf, zg, zp, Cp.isFull, isNil, zq, simprocAttr, SQX, V.cells, hl.gr]
    rintro en1 h1 ⟨e3, e1, e2, rfl⟩
    obtain ⟨lv3, hl3, hw⟩ := hyes h1.length h1
    obtain ⟨⟨mg, mp⟩, ⟨hmg, hmp⟩, hb⟩ := callD_exh (begin_r (base := h1.length) h1 hl)
    obtain ⟨ms, hms, hlo⟩ := callD_exh (f := fun _ => .mp (bgH h1 x lv mg mp (0, 0)).length) (g := fun ms : List (ByteArray × Int) => bgH h1 x lv mg mp (0, 0) ++ [.mmap (ms.map mEnt)]) (local_r (base := h1.length) (bgH h1 x lv mg mp (0, 0)) hl3.nd)
    have g0 : (bgH h1 x lv mg mp (0, 0) ++ [Obj.mmap (ms.map mEnt)])[(bgH h1 x lv mg mp (0, 0)).length]? = some (.mmap (ms.map mEnt)) := by simp
    have hk := fun base => ckind_r (base := base) s g0 (ext_mono bgH_2) rfl (ext_mono bgH_0)
    have hfin := kOf_kind (p := x) (x := x.l[n]) (hms s) (hmg s)
    unfold kOf at hfin
    have htk : (bgH h1 x lv mg mp (0, 0) ++ [Obj.mmap (ms.map mEnt)]).take h1.length = h1 := by
      rw [List.take_append_of_le_length (by simp [bgH]), bgH_take]
    simp only [SQ, SQB, zm, AOp.opds, step, Opd.get, zk, bin, zc, IntKind.signed, zi, zj, zl, zb, unary, ze, zd, za, zo, zr, zh, zf, zg, zp, Cp.isFull, isNil, zq, simprocAttr, SQX, V.cells, e3, e1, e2, zC, hl3.gr, zn hw, zn hb, zn hlo, zn (hk _), hfin, htk]
theorem OwnAt.frz {h H : Heap} {v : V} {l : List ByteArray} (q : OwnAt h v l H) {Q : V → Prop} (hq : ∀ v', ((v' = .sc (.slice none 0 0) ∧ l = []) ∨ ∃ ex, v' = .slc ex 1 (l.map sv)) → Q v') : Frz H h.length v Q := by
  rcases q with ⟨rfl, rfl, rfl⟩ | ⟨e, rfl, rfl⟩
  · exact Frz_sc (hq _ (.inl ⟨rfl, rfl⟩))
  · refine ⟨1, .slc .any 1 (l.map sv), ?_, hq _ (.inr ⟨_, rfl⟩)⟩
    have : (List.map sv l).take l.length = List.map sv l := List.take_of_length_le (by simp)
    simp [freezeV, rowAt, this, ground]
theorem OwnAt.tk {h H : Heap} {v : V} {l : List ByteArray} (q : OwnAt h v l H) : H.take h.length = h := by
  rcases q with ⟨rfl, rfl, rfl⟩ | ⟨e, rfl, rfl⟩ <;> simp
def FrN (v : V) (l : List ByteArray) : Prop := (v = .sc (.slice none 0 0) ∧ l = []) ∨ ∃ ex, v = .slc ex 1 (l.map sv)
theorem FrN.sl {v : V} {l : List ByteArray} (q : FrN v l) (h : Heap) (hl : l.length < 2 ^ 62) : SlN h v l := ⟨hl, by rcases q with q | q; exact .inl q; exact .inr (.inl q)⟩
theorem OwnAt.nil {h : Heap} : OwnAt h (.sc (.slice none 0 0)) [] h := .inl ⟨rfl, rfl, rfl⟩
set_option maxHeartbeats 2000000 in
theorem ckCalls_r {base : Nat} {x : Nd} {lv : V} (i : Int) (h : Heap) (hl : LV lv x.l) (hsz : szN x ≤ lim) : WpF S0 base k_check_Calls [.agg (ndC x lv), .sc (.int .i64 i)] h fun v h' => FrN v (if isItem x i then callsN (itemAt x i) [] else []) ∧ h' = h := by
  have hv := hl.nd
  cases hi : isItem x i
  · have hno := fun base h => citem_no (base := base) i h hv hl hi
    first | refine zu (A := f_check_Calls) rfl rfl rfl rfl ?_ | refine zB (A := f_check_Calls) rfl rfl rfl rfl ?_
    simp only [f_check_Calls, oD, cD]
    simp only [SQ, SQB, zm, AOp.opds, step, Opd.get, zk, bin, zc, IntKind.signed, zi, zj, zl, zb, unary, ze, zd, za, zo, zr, zh, zf, zg, zp, Cp.isFull, isNil, zq, simprocAttr, SQX, V.cells, hl.gr, zC, zn (hno _ _)]
    exact .inl ⟨rfl, rfl⟩
  · obtain ⟨n, hh, rfl, hm, hk, hat⟩ := isItem_no hi
    have hyes := fun base h => citem_yes (base := base) n h hv hl hh hm hk
    rw [hat]
    first | refine zu (A := f_check_Calls) rfl rfl rfl rfl ?_ | refine zB (A := f_check_Calls) rfl rfl rfl rfl ?_
    simp only [f_check_Calls, oD, cD]
    refine zw (fun en' h' => en' 2 = .eptr (ndC x lv) 0 ∧ en' 1 = .sc (.int .i64 n) ∧ h' = h) ?_ ?_
    · simp only [SQ, SQB, zm, AOp.opds, step, Opd.get, zk, bin, zc, IntKind.signed, zi, zj, zl, zb, unary, ze, zd, za, zo, zr, zh, zf, zg, zp, Cp.isFull, isNil, zq, simprocAttr, SQX, V.cells, hl.gr]
    rintro en1 h1 ⟨e2, e1, rfl⟩
    obtain ⟨lv3, hl3, hw⟩ := hyes h1.length h1
    have hsz2 := sz_child (List.getElem_mem hh)
    have hcl := calls_r _ x.l[n] (Nat.le_refl _) h1.length _ h1 h1 _ [] hl3.nd .nil (by simp only [List.length_nil]; omega)
    simp only [SQ, SQB, zm, AOp.opds, step, Opd.get, zk, bin, zc, IntKind.signed, zi, zj, zl, zb, unary, ze, zd, za, zo, zr, zh, zf, zg, zp, Cp.isFull, isNil, zq, simprocAttr, SQX, V.cells, e2, e1, zC, hl3.gr, zn hw, callD_some]
    refine hcl.mono ?_
    intro v' H' hown
    refine hown.frz fun v2 h2 => ⟨h2, hown.tk⟩
end
section
abbrev R (l : List Ck) : Er := hitE l (0, 0)
theorem R_app {a b : List Ck} (ha : nosL a) : R (a ++ b) = if (R a).2 = 0 then R b else R a := by
  unfold R
  rw [hit_app]
  by_cases h : (hitE a (0, 0)).2 = 0
  · rw [if_pos h, hit0 ha h]
  · rw [if_neg h, hit_stop h]
theorem nosL_app {a b : List Ck} (ha : nosL a) (hb : nosL b) : nosL (a ++ b) := fun c hc => by
  rcases List.mem_append.1 hc with h | h
  · exact ha c h
  · exact hb c h
theorem nos_need (k kind ln : Int) : nosL (needL k kind ln) := by
  intro c hc
  simp only [needL, List.mem_cons, List.not_mem_nil, or_false] at hc
  rcases hc with rfl | rfl <;> simp
theorem nos_head (K A : ByteArray → Int) (k : Int) (s t : ByteArray) (ln : Int) (len : Nat) : nosL (headL K A k s t ln len) := by
  unfold headL
  refine nosL_app (nosL_app ?_ ?_) ?_
  · split
    · intro c hc; simp at hc
    · exact nos_need _ _ _
  · split
    · intro c hc; simp at hc
    · exact nos_need _ _ _
  · split
    · intro c hc; simp only [List.mem_cons, List.not_mem_nil, or_false] at hc; subst hc; simp
    · intro c hc; simp at hc
mutual
theorem nos_walk (K A : ByteArray → Int) : ∀ y, nosL (walkL K A y)
  | .mk k s t _ _ ln l => nosL_app (nos_head K A k s t ln l.length) (nos_walks K A l)
theorem nos_walks (K A : ByteArray → Int) : ∀ l, nosL (walkLs K A l)
  | [] => fun c hc => by simp [walkLs] at hc
  | y :: r => nosL_app (nos_walk K A y) (nos_walks K A r)
end
def needE (k kind : Int) : Int := if k = 0 then 23 else if k = kind then 0 else 25
theorem R_need (k kind ln : Int) : R (needL k kind ln) = if needE k kind = 0 then (0, 0) else (ln, needE k kind) := by
  unfold needE needL
  by_cases h : k = 0
  · subst h; simp [R, hitE, wrongE]
  · by_cases h2 : k = kind
    · subst h2; simp [R, hitE, wrongE, h]
    · simp [R, hitE, wrongE, h, h2]
set_option maxHeartbeats 1000000 in
theorem refNeed_r {base : Nat} {p x : Nd} {cp cs : List V} (s : ByteArray) (kind : Int) (h : Heap) (hp : NdV p cp) (hv : NdV x cs) : WpF S0 base k_spinnakerref25_need [.agg cp, .agg cs, .sc (.string s), .sc (.int .i64 kind)] h fun v h' => v = .sc (.int .i64 (needE (kindN s p x) kind)) ∧ h' = h := by
  have hk := fun base h => refKind_r (base := base) s h hp hv
  obtain ⟨lp, rfl, hlp⟩ := hp.open
  obtain ⟨lv, rfl, hl⟩ := hv.open
  first | refine zu (A := f_spinnakerref25_need) rfl rfl rfl rfl ?_ | refine zB (A := f_spinnakerref25_need) rfl rfl rfl rfl ?_
  simp only [f_spinnakerref25_need, oD, cD]
  (simp only [SQ, zm, AOp.opds, step, Opd.get, zk, bin, zc, IntKind.signed, zi, zj, zl, zb, unary, ze, zd, za, zo, zr, zh, zf, zg, zp, Cp.isFull, isNil, zq, simprocAttr, SQX, V.cells, hl.gr, hlp.gr, zC, zn (hk _ _)]; repeat' ((first | refine condQ_i ?_ ?_ | refine guardQ_t ?_ ?_ | refine guardQ_f ?_ ?_) <;> (intro hb; simp only [SQ, zm, AOp.opds, step, Opd.get, zk, bin, zc, IntKind.signed, zi, zj, zl, zb, unary, ze, zd, za, zo, zr, zh, zf, zg, zp, Cp.isFull, isNil, zq, simprocAttr, SQX, V.cells, hb, hl.gr, hlp.gr, zC, zn (hk _ _)])))
  all_goals simp_all [needE]
theorem refFirst_r {base : Nat} (l e m f : Int) (h : Heap) : WpF S0 base k_spinnakerref25_first [.sc (.int .i64 l), .sc (.int .i64 e), .sc (.int .i64 m), .sc (.int .i64 f)] h fun v h' => v = .tup [.sc (.int .i64 (if e = 0 then m else l)), .sc (.int .i64 (if e = 0 then f else e))] ∧ h' = h := by
  first | refine zu (A := f_spinnakerref25_first) rfl rfl rfl rfl ?_ | refine zB (A := f_spinnakerref25_first) rfl rfl rfl rfl ?_
  simp only [f_spinnakerref25_first, oD, cD]
  (simp only [SQ, zm, AOp.opds, step, Opd.get, zk, bin, zc, IntKind.signed, zi, zj, zl, zb, unary, ze, zd, za, zo, zr, zh, zf, zg, zp, Cp.isFull, isNil, zq, simprocAttr, SQX, V.cells]; repeat' ((first | refine condQ_i ?_ ?_ | refine guardQ_t ?_ ?_ | refine guardQ_f ?_ ?_) <;> (intro hb; simp only [SQ, zm, AOp.opds, step, Opd.get, zk, bin, zc, IntKind.signed, zi, zj, zl, zb, unary, ze, zd, za, zo, zr, zh, zf, zg, zp, Cp.isFull, isNil, zq, simprocAttr, SQX, V.cells, hb])))
  all_goals simp_all
def prH (h : Heap) (a b c : List V) : Heap := h ++ [.box 24 a, .box 24 b, .box 24 c]
section
variable {h : Heap} {a b c d : List V}
theorem prH_0 : (prH h a b c)[h.length]? = some (.box 24 a) := by simp [prH]
theorem prH_1 : (prH h a b c)[h.length + 1]? = some (.box 24 b) := by simp [prH, List.getElem?_append_right]
theorem prH_2 : (prH h a b c)[h.length + 1 + 1]? = some (.box 24 c) := by
  rw [prH, List.getElem?_append_right (by omega), show h.length + 1 + 1 - h.length = 2 by omega]; rfl
theorem prH_s1 : (prH h a b c).set (h.length + 1) (.box 24 d) = prH h a d c := by
  rw [prH, List.set_append_right _ _ (by omega), show h.length + 1 - h.length = 1 by omega]; rfl
theorem prH_s2 : (prH h a b c).set (h.length + 1 + 1) (.box 24 d) = prH h a b d := by
  rw [prH, List.set_append_right _ _ (by omega), show h.length + 1 + 1 - h.length = 2 by omega]; rfl
theorem prH_take : (prH h a b c).take h.length = h := by simp [prH]
theorem may_le {base b : Nat} {cs : List V} (h : base ≤ b) : mayStore base b cs = true := by simp [mayStore, h]
theorem store7 {base b : Nat} {h : Heap} {cs ds : List V} (hb : h[b]? = some (.box 24 cs)) (h7 : ds.length = 7) (h8 : cs.length = 7) (h1 : ds.all zm = true) (hm : mayStore base b ds = true) : storeV base h 7 (.ptr b 0) (.agg ds) = some (h.set b (.box 24 ds)) := by
  refine (store_box (x := .agg ds) (n := 7) hb h7 h1 (by omega) hm).trans ?_
  rw [show (V.agg ds).cells = ds from rfl, putAll h7 h8]
end
theorem ndC_one {x : Nd} {lv : V} (hl : LV lv x.l) : (ndC x lv).all zm = true := by simp only [List.all_cons, List.all_nil, oneCell_sc, hl.one, Bool.and_true]
set_option maxHeartbeats 4000000 in
theorem refProc_r {base : Nat} {p : Nd} {cp : List V} (t : ByteArray) (h : Heap) (hp : NdV p cp) : WpF S0 base k_spinnakerref25_proc [.agg cp, .sc (.string t)] h fun v h' => (∃ lv, v = .agg (ndC (procN p.l t) lv) ∧ LV lv (procN p.l t).l) ∧ h' = h := by
  obtain ⟨lp, rfl, hlp⟩ := hp.open
  have ll := hlp.len
  have lt := hlp.lt
  first | refine zu (A := f_spinnakerref25_proc) rfl rfl rfl rfl ?_ | refine zB (A := f_spinnakerref25_proc) rfl rfl rfl rfl ?_
  simp only [f_spinnakerref25_proc, oD, cD]
  have fz : fillParts Zn [] = some Zn := rfl
  refine zw (fun en' h' => en' 2 = .ptr h.length 0 ∧ en' 4 = .ptr (h.length + 1) 0 ∧ en' 1 = .sc (.string t) ∧ h' = h ++ [.box 24 (ndC p lp)] ++ [.box 24 Zn]) ?_ ?_
  · simp only [SQ, SQB, AOp.opds, step, Opd.get, zk, bin, zc, IntKind.signed, zi, zj, zl, zb, unary, ze, zd, za, zo, zr, zh, zf, zg, zp, Cp.isFull, isNil, zq, simprocAttr, SQX, V.cells, oneCell_sc, hlp.one, List.length_append]
  rintro en1 h1 ⟨e2, e4, e1, rfl⟩
  refine zw (fun en' h' => en' 2 = .ptr h.length 0 ∧ en' 4 = .ptr (h.length + 1) 0 ∧ en' 5 = .ptr (h.length + 1 + 1) 0 ∧ en' 1 = .sc (.string t) ∧ h' = prH h (ndC p lp) Zn Zn) ?_ ?_
  · have e : h ++ [.box 24 (ndC p lp)] ++ [.box 24 Zn] ++ [.box 24 Zn] = prH h (ndC p lp) Zn Zn := by simp [prH]
    have hs := store7 (base := h.length) (ds := Zn) (prH_2 (h := h) (a := ndC p lp) (b := Zn) (c := Zn)) rfl rfl rfl (may_le (by omega))
    simp only [SQ, SQB, AOp.opds, step, Opd.get, zk, bin, zc, IntKind.signed, zi, zj, zl, zb, unary, ze, zd, za, zo, zr, zh, zf, zg, zp, Cp.isFull, isNil, zq, simprocAttr, SQX, V.cells, e2, e4, e1, fz, getParts, List.length_append, e, hs, prH_s2]
  rintro en2 h2 ⟨f2, f4, f5, f1, rfl⟩
  refine zw (fun en' h' => en' 4 = .ptr (h.length + 1) 0 ∧ en' 5 = .ptr (h.length + 1 + 1) 0 ∧ ∃ lv, h' = prH h (ndC p lp) Zn (ndC (procN p.l t) lv) ∧ LV lv (procN p.l t).l) ?_ ?_
  · simp only [SQ, SQB, zm, AOp.opds, step, Opd.get, zk, bin, zc, IntKind.signed, zi, zj, zl, zb, unary, ze, zd, za, zo, zr, zh, zf, zg, zp, Cp.isFull, isNil, zq, simprocAttr, SQX, V.cells, f2, f4, f5, f1]
    refine WpC_loopI (fun k en h' => ∃ i : Nat, k = p.l.length - i ∧ i ≤ p.l.length ∧ en 6 = V.int i ∧ en 2 = .ptr h.length 0 ∧ en 4 = .ptr (h.length + 1) 0 ∧ en 5 = .ptr (h.length + 1 + 1) 0 ∧ en 1 = .sc (.string t) ∧ ∃ lv, h' = prH h (ndC p lp) Zn (ndC (procN (p.l.take i) t) lv) ∧ LV lv (procN (p.l.take i) t).l) p.l.length ⟨0, rfl, Nat.zero_le _, rfl, f2, f4, f5, f1, V.nilS, rfl, .inl ⟨rfl, rfl⟩⟩ ?_
    rintro k en h' ⟨i, rfl, hi, i6, i2, i4, i5, i1, lc, rfl, hlc⟩
    have hg := prH_0 (h := h) (a := ndC p lp) (b := Zn) (c := ndC (procN (p.l.take i) t) lc)
    by_cases hh : i < p.l.length
    · obtain ⟨r, hr1, hr2⟩ := hlp.get hh
      obtain ⟨lv2, rfl, hl2⟩ := hr2.open
      have hs := store7 (base := h.length) (ds := ndC p.l[i] lv2) (prH_2 (h := h) (a := ndC p lp) (b := Zn) (c := ndC (procN (p.l.take i) t) lc)) rfl rfl (ndC_one hl2) (may_le (by omega))
      (simp only [SQ, AOp.opds, step, Opd.get, bin, zc, IntKind.signed, zj, zl, zb, unary, ze, zd, za, zo, zr, zh, zf, zg, zp, Cp.isFull, isNil, zq, simprocAttr, SQX, V.cells, i6, i2, i4, i5, i1, hg, ll, hh, hr1, zC, zE, list_eq, hs, prH_s2]; repeat' ((first | refine condQ_i ?_ ?_ | refine guardQ_t ?_ ?_ | refine guardQ_f ?_ ?_) <;> (intro hb; simp only [SQ, AOp.opds, step, Opd.get, bin, zc, IntKind.signed, zj, zl, zb, unary, ze, zd, za, zo, zr, zh, zf, zg, zp, Cp.isFull, isNil, zq, simprocAttr, SQX, V.cells, hb, i6, i2, i4, i5, i1, hg, ll, hh, hr1, zC, zE, list_eq, hs, prH_s2])))
      all_goals refine ⟨p.l.length - (i + 1), by omega, i + 1, rfl, by omega, by rw [wrap_i64 (by omega) (by omega)]; rfl, ?_⟩
      all_goals rw [procN_take hh]
      · rename_i hb1
        rw [if_pos ⟨of_decide_eq_true hb1, of_decide_eq_true (by assumption)⟩]
        exact ⟨lv2, rfl, hl2⟩
      · rw [if_neg (fun q => absurd q.2 (of_decide_eq_false (by assumption)))]
        exact ⟨lc, rfl, hlc⟩
      · rw [if_neg (fun q => absurd q.1 (of_decide_eq_false (by assumption)))]
        exact ⟨lc, rfl, hlc⟩
    · have : p.l.take i = p.l := List.take_of_length_le (by omega)
      rw [this] at hg hlc ⊢
      simp only [SQ, SQB, zm, AOp.opds, step, Opd.get, bin, zc, IntKind.signed, zj, zl, zb, unary, ze, zd, za, zo, zr, zh, zf, zg, zp, Cp.isFull, isNil, zq, simprocAttr, SQX, V.cells, i6, i2, i4, i5, i1, hg, ll, hh]
      exact ⟨lc, rfl, hlc⟩
  rintro en3 h3 ⟨g4, g5, lv, rfl, hlv⟩
  have hg2 := prH_2 (h := h) (a := ndC p lp) (b := Zn) (c := ndC (procN p.l t) lv)
  have hs := store7 (base := h.length) (ds := ndC (procN p.l t) lv) (prH_1 (h := h) (a := ndC p lp) (b := Zn) (c := ndC (procN p.l t) lv)) rfl rfl (ndC_one hlv) (may_le (by omega))
  have hg1 := prH_1 (h := h) (a := ndC p lp) (b := ndC (procN p.l t) lv) (c := ndC (procN p.l t) lv)
  have hfz : ∀ {h : Heap} {b : Nat} {Q : V → Prop}, Frz h b lv Q ↔ Q lv := by
    intro h b Q
    rcases hlv with ⟨rfl, _⟩ | ⟨ex, rows, rfl, _⟩
    · exact Frz_sci
    · exact Frz_slci
  simp only [SQ, SQB, AOp.opds, step, Opd.get, zk, bin, zc, IntKind.signed, zi, zj, zl, zb, unary, ze, zd, za, zo, zr, zh, zf, zg, zp, Cp.isFull, isNil, zq, simprocAttr, SQX, V.cells, g4, g5, hg2, zC, hs, prH_s1, hg1, prH_take, hfz]
  exact ⟨lv, rfl, hlv⟩
end
section
theorem WpC_cutR {S : Fns} {base : Nat} {a b : ACode} {en : Env} {h : Heap} {Q : Ex → Env → Heap → Prop} (P : Env → Heap → Prop) (h1 : WpC S base a en h fun ex en' h' => (ex = .normal ∧ P en' h') ∨ (ex = .ret ∧ Q .ret en' h')) (h2 : ∀ en' h', P en' h' → WpC S base b en' h' Q) : WpC S base (.seq a b) en h Q := by
  rw [WpC_seqD]
  refine WpC_mono h1 ?_
  rintro ex en' h' (⟨rfl, hp⟩ | ⟨rfl, hq⟩)
  · exact h2 en' h' hp
  · exact hq
def eOf (K : ByteArray → Int) (k : Int) (s : ByteArray) : Int := if (n2 k).1 = 0 then 0 else needE (K s) (n2 k).1
def fOf (K A : ByteArray → Int) (k : Int) (t : ByteArray) (len : Nat) : Int := if (n2 k).2 = 0 then 0 else if k = 18 ∧ needE (K t) (n2 k).2 = 0 ∧ (len : Int) ≠ A t then 26 else needE (K t) (n2 k).2
theorem R_head (K A : ByteArray → Int) (k : Int) (s t : ByteArray) (ln : Int) (len : Nat) : R (headL K A k s t ln len) = if eOf K k s ≠ 0 then (ln, eOf K k s) else if fOf K A k t len ≠ 0 then (ln, fOf K A k t len) else (0, 0) := by
  have n0 : ∀ (b : Bool) (k l : Int), nosL (if b then [] else needL k l ln) := fun b k l => by
    cases b
    · exact nos_need _ _ _
    · intro c hc; simp at hc
  have h1 : R (if (n2 k).1 = 0 then [] else needL (K s) (n2 k).1 ln) = if eOf K k s = 0 then (0, 0) else (ln, eOf K k s) := by
    unfold eOf
    split
    · simp [R, hitE]
    · rw [R_need]
  have h2 : R (if (n2 k).2 = 0 then [] else needL (K t) (n2 k).2 ln) = if (n2 k).2 = 0 ∨ needE (K t) (n2 k).2 = 0 then (0, 0) else (ln, needE (K t) (n2 k).2) := by
    by_cases q : (n2 k).2 = 0
    · simp [q, R, hitE]
    · rw [if_neg q, R_need]; simp [q]
  have nn1 : nosL (if (n2 k).1 = 0 then [] else needL (K s) (n2 k).1 ln) := by
    split
    · intro c hc; simp at hc
    · exact nos_need _ _ _
  have nn2 : nosL (if (n2 k).2 = 0 then [] else needL (K t) (n2 k).2 ln) := by
    split
    · intro c hc; simp at hc
    · exact nos_need _ _ _
  unfold headL
  rw [R_app (nosL_app nn1 nn2), R_app nn1, h1, h2]
  by_cases e0 : eOf K k s = 0
  · simp only [e0, if_true, ne_eq, not_true_eq_false, if_false]
    by_cases q : (n2 k).2 = 0
    · have hk : ¬ k = 18 := by rintro rfl; simp [n2] at q
      simp [q, fOf, hk, R, hitE]
    · by_cases q2 : needE (K t) (n2 k).2 = 0
      · by_cases hk : k = 18
        · by_cases ha : (len : Int) = A t
          · simp [q, q2, fOf, hk, ha, R, hitE, wrongE]
            simp [hk] at q q2
            simp [q, q2]
          · simp [q, q2, fOf, hk, ha, R, hitE, wrongE]
            simp [hk] at q q2
            simp [q, q2]
        · simp [q, q2, fOf, hk, R, hitE]
      · simp [q, q2, fOf]
  · simp [e0]
def RWalkOk (p x y : Nd) : Prop := ∀ (base : Nat) (cp cx cs : List V) (h : Heap), NdV p cp → NdV x cx → NdV y cs →
  WpF S0 base k_spinnakerref25_walk [.agg cp, .agg cx, .agg cs] h fun v h' => v = .tup [.sc (.int .i64 (R (walkL (fun s => kindN s p x) (fun t => (procN p.l t).n) y)).1), .sc (.int .i64 (R (walkL (fun s => kindN s p x) (fun t => (procN p.l t).n) y)).2)] ∧ h' = h
set_option maxHeartbeats 8000000 in
theorem refWalk_r (p x : Nd) (n : Nat) : ∀ (y : Nd), szN y ≤ n → RWalkOk p x y := by
  refine n.rec (fun x hn => ?_) (fun n ih y hn => ?_)
  · cases x; simp [szN] at hn
  have hm : ∀ z ∈ y.l, RWalkOk p x z := fun z hz => ih z (by have := sz_child hz; omega)
  intro base cp cx cs h hp hx hv
  have hne := fun base s kind h => refNeed_r (base := base) s kind h hp hx
  have hpr := fun base h => callD_ex (refProc_r (base := base) y.t h hp |>.mono fun v h' ⟨⟨lv, a, b⟩, c⟩ => (⟨⟨lv, a, b⟩, c⟩ : (∃ lv, v = (fun lv => V.agg (ndC (procN p.l y.t) lv)) lv ∧ LV lv (procN p.l y.t).l) ∧ h' = h))
  have hp0 := hp
  have hx0 := hx
  obtain ⟨lp, rfl, hlp⟩ := hp.open
  obtain ⟨lx, rfl, hlx⟩ := hx.open
  obtain ⟨lw, rfl, hl⟩ := hv.open
  have ll := hl.len
  have lt := hl.lt
  generalize hK : (fun s => kindN s p x) = K at hm ⊢
  generalize hA : (fun t => (procN p.l t).n) = A at hm ⊢
  have hKs : ∀ s, kindN s p x = K s := fun s => by rw [← hK]
  have hAt : (procN p.l y.t).n = A y.t := by rw [← hA]
  first | refine zu (A := f_spinnakerref25_walk) rfl rfl rfl rfl ?_ | refine zB (A := f_spinnakerref25_walk) rfl rfl rfl rfl ?_
  simp only [f_spinnakerref25_walk, oD, cD]
  refine zw (fun en' h' => en' 3 = .eptr (ndC p lp) 0 ∧ en' 4 = .eptr (ndC x lx) 0 ∧ en' 5 = .eptr (ndC y lw) 0 ∧ h' = h) ?_ ?_
  · simp only [SQ, SQB, zm, AOp.opds, step, Opd.get, zk, bin, zc, IntKind.signed, zi, zj, zl, zb, unary, ze, zd, za, zo, zr, zh, zf, zg, zp, Cp.isFull, isNil, zq, simprocAttr, SQX, V.cells, hlp.gr, hlx.gr, hl.gr]
  rintro en1 h1 ⟨e3, e4, e5, rfl⟩
  refine zw (fun en' h' => en' 3 = .eptr (ndC p lp) 0 ∧ en' 4 = .eptr (ndC x lx) 0 ∧ en' 5 = .eptr (ndC y lw) 0 ∧ en' 8 = .sc (.int .i64 0) ∧ en' 9 = .sc (.int .i64 0) ∧ h' = h1) ?_ ?_
  · simp only [SQ, SQB, zm, AOp.opds, step, Opd.get, zk, bin, zc, IntKind.signed, zi, zj, zl, zb, unary, ze, zd, za, zo, zr, zh, zf, zg, zp, Cp.isFull, isNil, zq, simprocAttr, SQX, V.cells, e3, e4, e5]
  rintro en2 h2 ⟨f3, f4, f5, f8, f9, rfl⟩
  refine zw (fun en' h' => en' 3 = .eptr (ndC p lp) 0 ∧ en' 4 = .eptr (ndC x lx) 0 ∧ en' 5 = .eptr (ndC y lw) 0 ∧ en' 8 = .sc (.int .i64 (eOf K y.kind y.s)) ∧ en' 9 = .sc (.int .i64 (fOf K A y.kind y.t y.l.length)) ∧ h' = h2) ?_ ?_
  · obtain ⟨lr, hlr, hpw⟩ := hpr h2.length h2
    (simp only [SQ, zm, AOp.opds, step, Opd.get, bin, zc, IntKind.signed, zi, zj, zl, zb, unary, ze, zd, za, zo, zr, zh, zf, zg, zp, Cp.isFull, isNil, zq, simprocAttr, SQX, V.cells, f3, f4, f5, f8, f9, zC, ll, zn (hne _ _ _ _), zn hpw, hKs, hAt]; repeat' ((first | refine condQ_i ?_ ?_ | refine guardQ_t ?_ ?_ | refine guardQ_f ?_ ?_) <;> (intro hb; simp only [SQ, zm, AOp.opds, step, Opd.get, bin, zc, IntKind.signed, zi, zj, zl, zb, unary, ze, zd, za, zo, zr, zh, zf, zg, zp, Cp.isFull, isNil, zq, simprocAttr, SQX, V.cells, hb, f3, f4, f5, f8, f9, zC, ll, zn (hne _ _ _ _), zn hpw, hKs, hAt])))
    all_goals (clear hne hpr hpw hm ih; simp_all [eOf, fOf, n2])
  rintro en3 h3 ⟨g3, g4, g5, g8, g9, rfl⟩
  have hRh := R_head K A y.kind y.s y.t y.line y.l.length
  refine zw (fun en' h' => en' 3 = .eptr (ndC p lp) 0 ∧ en' 4 = .eptr (ndC x lx) 0 ∧ en' 5 = .eptr (ndC y lw) 0 ∧ (∃ l : Int, en' 10 = .sc (.int .i64 l) ∧ ((R (headL K A y.kind y.s y.t y.line y.l.length)).2 ≠ 0 → l = (R (headL K A y.kind y.s y.t y.line y.l.length)).1)) ∧ en' 11 = .sc (.int .i64 (R (headL K A y.kind y.s y.t y.line y.l.length)).2) ∧ h' = h3) ?_ ?_
  · simp only [SQ, SQB, zm, AOp.opds, step, Opd.get, zk, bin, zc, IntKind.signed, zi, zj, zl, zb, unary, ze, zd, za, zo, zr, zh, zf, zg, zp, Cp.isFull, isNil, zq, simprocAttr, SQX, V.cells, g3, g4, g5, g8, g9, zn (refFirst_r _ _ _ _ _)]
    rw [hRh]
    by_cases q : eOf K y.kind y.s = 0
    · by_cases q2 : fOf K A y.kind y.t y.l.length = 0
      · simp [q, q2]
      · simp [q, q2]
    · simp [q]
  rintro en4 h4 ⟨i3, i4, i5, ⟨l0, i10, hl0⟩, i11, rfl⟩
  have hfin := walkL_eq K A y
  have hnos := nos_head K A y.kind y.s y.t y.line y.l.length
  generalize headL K A y.kind y.s y.t y.line y.l.length = HL at hfin hnos i10 i11 hl0
  have hnw := nos_walks K A
  refine zw (fun en' h' => (∃ l : Int, en' 10 = .sc (.int .i64 l) ∧ ((R (walkL K A y)).2 ≠ 0 → l = (R (walkL K A y)).1)) ∧ en' 11 = .sc (.int .i64 (R (walkL K A y)).2) ∧ h' = h4) ?_ ?_
  · simp only [SQ, SQB, zm, AOp.opds, step, Opd.get, zk, bin, zc, IntKind.signed, zi, zj, zl, zb, unary, ze, zd, za, zo, zr, zh, zf, zg, zp, Cp.isFull, isNil, zq, simprocAttr, SQX, V.cells, i3, i4, i5, i10, i11]
    refine WpC_loopI (fun k en h' => ∃ i : Nat, k = y.l.length - i ∧ i ≤ y.l.length ∧ en 12 = V.int i ∧ en 3 = .eptr (ndC p lp) 0 ∧ en 4 = .eptr (ndC x lx) 0 ∧ en 5 = .eptr (ndC y lw) 0 ∧ (∃ l : Int, en 10 = .sc (.int .i64 l) ∧ ((R (HL ++ walkLs K A (y.l.take i))).2 ≠ 0 → l = (R (HL ++ walkLs K A (y.l.take i))).1)) ∧ en 11 = .sc (.int .i64 (R (HL ++ walkLs K A (y.l.take i))).2) ∧ h' = h4) y.l.length ⟨0, rfl, Nat.zero_le _, rfl, i3, i4, i5, ⟨l0, i10, by simpa [walkLs] using hl0⟩, by rw [List.take_zero, walkLs, List.append_nil]; exact i11, rfl⟩ ?_
    rintro k en h' ⟨i, rfl, hi, j12, j3, j4, j5, ⟨l1, j10, hl1⟩, j11, rfl⟩
    by_cases hh : i < y.l.length
    · obtain ⟨r, hr1, hr2⟩ := hl.get hh
      obtain ⟨lv2, rfl, hl2⟩ := hr2.open
      have hw := fun base h => hm y.l[i] (List.getElem_mem hh) base _ _ _ h hp0 hx0 hr2
      rw [hK, hA] at hw
      have hstep : R (HL ++ walkLs K A (y.l.take (i + 1))) = if (R (HL ++ walkLs K A (y.l.take i))).2 = 0 then R (walkL K A y.l[i]) else R (HL ++ walkLs K A (y.l.take i)) := by
        rw [walkLs_take hh, ← List.append_assoc, R_app (nosL_app hnos (hnw _))]
      generalize R (HL ++ walkLs K A (y.l.take i)) = E at hstep j11 hl1
      simp only [SQ, SQB, zm, AOp.opds, step, Opd.get, bin, zc, IntKind.signed, zj, zl, zb, unary, ze, zd, za, zo, zr, zh, zf, zg, zp, Cp.isFull, isNil, zq, simprocAttr, SQX, V.cells, j12, j3, j4, j5, j10, j11, ll, hh, hr1, zC, zn (hw _ _), zn (refFirst_r _ _ _ _ _)]
      refine ⟨y.l.length - (i + 1), by omega, i + 1, rfl, by omega, by rw [wrap_i64 (by omega) (by omega)]; rfl, ?_⟩
      rw [hstep]
      by_cases q : E.2 = 0
      · simp [q]
      · simp [q]
        exact hl1 q
    · have : y.l.take i = y.l := List.take_of_length_le (by omega)
      rw [this, ← hfin] at j11 hl1
      simp only [SQ, SQB, zm, AOp.opds, step, Opd.get, bin, zc, IntKind.signed, zj, zl, zb, unary, ze, zd, za, zo, zr, zh, zf, zg, zp, Cp.isFull, isNil, zq, simprocAttr, SQX, V.cells, j12, j3, j4, j5, j10, j11, ll, hh]
      exact ⟨_, rfl, hl1⟩
  rintro en5 h5 ⟨⟨l1, k10, hl1⟩, k11, rfl⟩
  have h0 : (R (walkL K A y)).2 = 0 → R (walkL K A y) = (0, 0) := hit0 (nos_walk K A y)
  (simp only [SQ, zm, AOp.opds, step, Opd.get, zk, bin, zc, IntKind.signed, zi, zj, zl, zb, unary, ze, zd, za, zo, zr, zh, zf, zg, zp, Cp.isFull, isNil, zq, simprocAttr, SQX, V.cells, k10, k11]; repeat' ((first | refine condQ_i ?_ ?_ | refine guardQ_t ?_ ?_ | refine guardQ_f ?_ ?_) <;> (intro hb; simp only [SQ, zm, AOp.opds, step, Opd.get, zk, bin, zc, IntKind.signed, zi, zj, zl, zb, unary, ze, zd, za, zo, zr, zh, zf, zg, zp, Cp.isFull, isNil, zq, simprocAttr, SQX, V.cells, hb, k10, k11])))
  · have q := of_decide_eq_true hb
    rw [h0 q]
  · have q := of_decide_eq_false hb
    rw [hl1 q]
end
section
theorem R_pre {a b : List Ck} (h : (R a).2 ≠ 0) : R (a ++ b) = R a := by
  unfold R at h ⊢
  rw [hit_app, hit_stop h]
theorem dStep_ext (G : ByteArray → Int) : ∀ (l : List Nd) (st : List ByteArray × List Ck), ∃ more, (l.foldl (dStep G) st).2 = st.2 ++ more
  | [], st => ⟨[], by simp⟩
  | d :: r, st => by
    obtain ⟨m, hm⟩ := dStep_ext G r (dStep G st d)
    obtain ⟨m2, hm2⟩ : ∃ m2, (dStep G st d).2 = st.2 ++ m2 := by
      unfold dStep
      split
      · exact ⟨[], by simp⟩
      · exact ⟨_, rfl⟩
    exact ⟨m2 ++ m, by rw [List.foldl_cons, hm, hm2, List.append_assoc]⟩
theorem declF_pre (G : ByteArray → Int) (y : Nd) (l : List Nd) {i n : Nat} (h : i ≤ n) : ∃ more, (declF G y (l.take n)).2 = (declF G y (l.take i)).2 ++ more := by
  have : l.take n = l.take i ++ (l.take n).drop i := by
    conv => lhs; rw [← List.take_append_drop i (l.take n)]
    rw [List.take_take, Nat.min_eq_left h]
  rw [this]
  unfold declF
  rw [List.foldl_append]
  exact dStep_ext G _ _
theorem dStep_nos (G : ByteArray → Int) : ∀ (l : List Nd) (st : List ByteArray × List Ck), nosL st.2 → nosL (l.foldl (dStep G) st).2
  | [], st, h => h
  | d :: r, st, h => by
    rw [List.foldl_cons]
    refine dStep_nos G r _ ?_
    unfold dStep
    split
    · exact h
    · refine nosL_app h fun c hc => ?_
      simp only [List.mem_cons, List.not_mem_nil, or_false] at hc
      rcases hc with rfl | rfl <;> simp
theorem declF_nos (G : ByteArray → Int) (y : Nd) (l : List Nd) : nosL (declF G y l).2 := dStep_nos G l _ (fun c hc => by simp at hc)
theorem seen_iff (G : ByteArray → Int) (y : Nd) {l : List Nd} (s : ByteArray) : ∀ {i : Nat}, i ≤ l.length → (∀ j (hj : j < l.length), j < i → l[j].kind ≠ 7) → (inB (declF G y (l.take i)).1 s = true ↔ (y.kind = 3 ∧ s = resT) ∨ ∃ j, ∃ hj : j < l.length, j < i ∧ l[j].s = s)
  | 0, _, _ => by
    simp only [declF, List.take_zero, List.foldl_nil, Nat.not_lt_zero, false_and, exists_false, or_false]
    by_cases q : y.kind = 3
    · simp only [q, if_true, true_and, inB_cons, inB_nil, Bool.or_false, decide_eq_true_eq]
      exact eq_comm
    · simp [q, inB_nil]
  | i + 1, hi, hk => by
    have hh : i < l.length := by omega
    have ih := seen_iff G y (l := l) s (i := i) (by omega) (fun j hj h => hk j hj (by omega))
    have hf : declF G y (l.take (i + 1)) = dStep G (declF G y (l.take i)) l[i] := foldl_take hh
    rw [hf]
    unfold dStep
    rw [if_neg (hk i hh (by omega))]
    simp only [inB_cons, Bool.or_eq_true, decide_eq_true_eq, ih]
    constructor
    · rintro (h | h | ⟨j, hj, h1, h2⟩)
      · exact .inr ⟨i, hh, by omega, h⟩
      · exact .inl h
      · exact .inr ⟨j, hj, by omega, h2⟩
    · rintro (h | ⟨j, hj, h1, h2⟩)
      · exact .inr (.inl h)
      · by_cases q : j = i
        · subst q; exact .inl h2
        · exact .inr (.inr ⟨j, hj, by omega, h2⟩)
def itemL (p y : Nd) : List Ck := (declF (fun s => globN s p.l) y (y.l.take (y.l.length - 1))).2 ++ walkL (fun s => kindN s p y) (fun t => (procN p.l t).n) (y.l.getD (y.l.length - 1) zN)
set_option maxHeartbeats 8000000 in
theorem refItem_r {base : Nat} {p y : Nd} {cp cs : List V} (h : Heap) (hp : NdV p cp) (hv : NdV y cs) (h0 : 0 < y.l.length) (hk : ∀ j (hj : j < y.l.length), j < y.l.length - 1 → y.l[j].kind ≠ 7) :
    WpF S0 base k_spinnakerref25_item [.agg cp, .agg cs] h fun v h' => v = .tup [.sc (.int .i64 (R (itemL p y)).1), .sc (.int .i64 (R (itemL p y)).2)] ∧ h' = h := by
  have hgl := fun base s h => global_r (base := base) s h hp
  have hwk := fun (z : Nd) base cz h (hz : NdV z cz) => refWalk_r p y _ z (Nat.le_refl _) base _ _ cz h hp hv hz
  obtain ⟨lp, rfl, hlp⟩ := hp.open
  obtain ⟨lw, rfl, hl⟩ := hv.open
  have ll := hl.len
  have lt := hl.lt
  have hsub : IntKind.i64.wrap ((y.l.length : Int) - 1) = ((y.l.length - 1 : Nat) : Int) := by rw [wrap_i64 (by omega) (by omega)]; omega
  generalize hG : (fun s => globN s p.l) = G
  have hGs : ∀ s, globN s p.l = G s := fun s => by rw [← hG]
  generalize hN : y.l.length - 1 = N at hsub
  have hNl : N < y.l.length := by omega
  have hitem : itemL p y = (declF G y (y.l.take N)).2 ++ walkL (fun s => kindN s p y) (fun t => (procN p.l t).n) y.l[N] := by
    unfold itemL
    rw [hN, hG]
    simp [hNl]
  have hpre : ∀ i, i < N → (R (declF G y (y.l.take (i + 1))).2).2 ≠ 0 → R (itemL p y) = R (declF G y (y.l.take (i + 1))).2 := by
    intro i hi hne
    obtain ⟨more, hm⟩ := declF_pre G y y.l (show i + 1 ≤ N by omega)
    rw [hitem, hm, List.append_assoc]
    exact R_pre hne
  first | refine zu (A := f_spinnakerref25_item) rfl rfl rfl rfl ?_ | refine zB (A := f_spinnakerref25_item) rfl rfl rfl rfl ?_
  simp only [f_spinnakerref25_item, oD, cD]
  refine zw (fun en' h' => en' 2 = .eptr (ndC p lp) 0 ∧ en' 3 = .eptr (ndC y lw) 0 ∧ h' = h) ?_ ?_
  · simp only [SQ, SQB, zm, AOp.opds, step, Opd.get, zk, bin, zc, IntKind.signed, zi, zj, zl, zb, unary, ze, zd, za, zo, zr, zh, zf, zg, zp, Cp.isFull, isNil, zq, simprocAttr, SQX, V.cells, hlp.gr, hl.gr]
  rintro en1 h1 ⟨e2, e3, rfl⟩
  refine WpC_cutR (fun en' h' => en' 2 = .eptr (ndC p lp) 0 ∧ en' 3 = .eptr (ndC y lw) 0 ∧ R (declF G y (y.l.take N)).2 = (0, 0) ∧ h' = h1) ?_ ?_
  · simp only [SQ, SQB, zm, AOp.opds, step, Opd.get, zk, bin, zc, IntKind.signed, zi, zj, zl, zb, unary, ze, zd, za, zo, zr, zh, zf, zg, zp, Cp.isFull, isNil, zq, simprocAttr, SQX, V.cells, e2, e3]
    refine WpC_loopI (fun k en h' => ∃ i : Nat, k = N - i ∧ i ≤ N ∧ en 6 = V.int i ∧ en 2 = .eptr (ndC p lp) 0 ∧ en 3 = .eptr (ndC y lw) 0 ∧ R (declF G y (y.l.take i)).2 = (0, 0) ∧ h' = h1) N ⟨0, rfl, Nat.zero_le _, rfl, e2, e3, rfl, rfl⟩ ?_
    rintro k en h' ⟨i, rfl, hi, i6, i2, i3, hR, rfl⟩
    by_cases hh : i < N
    · have hil : i < y.l.length := by omega
      obtain ⟨r, hr1, hr2⟩ := hl.get hil
      obtain ⟨lv2, rfl, hl2⟩ := hr2.open
      have hk7 := hk i hil (by omega)
      have hf : declF G y (y.l.take (i + 1)) = dStep G (declF G y (y.l.take i)) y.l[i] := foldl_take hil
      have hseen := seen_iff G y (l := y.l) y.l[i].s (i := i) (by omega) (fun j hj h => hk j hj (by omega))
      have hnos := declF_nos G y (y.l.take i)
      have hpi := hpre i hh
      have hRi : R (declF G y (y.l.take (i + 1))).2 = R [(inB (declF G y (y.l.take i)).1 y.l[i].s || !decide (G y.l[i].s = 0), y.l[i].line, 24), (decide (y.l[i].kind = 6) && (decide (y.l[i].n < 1) || decide (250 < y.l[i].n)), y.l[i].line, 28)] := by
        rw [hf]
        unfold dStep
        rw [if_neg hk7]
        show R ((declF G y (y.l.take i)).2 ++ _) = _
        rw [R_app hnos, hR]
        rfl
      generalize declF G y (y.l.take i) = st at hf hseen hnos hR hRi
      have again : (inB st.1 y.l[i].s || !decide (G y.l[i].s = 0)) = true → R (itemL p y) = (y.l[i].line, 24) := by
        intro q
        have e : R (declF G y (y.l.take (i + 1))).2 = (y.l[i].line, 24) := by
          rw [hRi, q]
          simp [R, hitE, wrongE]
        rw [hpi (by rw [e]; simp), e]
      (simp only [SQ, zm, AOp.opds, step, Opd.get, bin, zc, IntKind.signed, zj, zl, zb, unary, ze, zd, za, zo, zr, zh, zf, zg, zp, Cp.isFull, isNil, zq, simprocAttr, SQX, V.cells, i6, i2, i3, ll, hsub, hh, hr1, zC, hl2.gr, zn (hgl _ _ _), hGs, zE, list_eq]; repeat' ((first | refine condQ_i ?_ ?_ | refine guardQ_t ?_ ?_ | refine guardQ_f ?_ ?_) <;> (intro hb; simp only [SQ, zm, AOp.opds, step, Opd.get, bin, zc, IntKind.signed, zj, zl, zb, unary, ze, zd, za, zo, zr, zh, zf, zg, zp, Cp.isFull, isNil, zq, simprocAttr, SQX, V.cells, hb, i6, i2, i3, ll, hsub, hh, hr1, zC, hl2.gr, zn (hgl _ _ _), hGs, zE, list_eq])))
      rotate_right 1
      · rw [again (by rw [Bool.or_eq_true]; right; simp_all)]
      · rw [again (by rw [Bool.or_eq_true]; exact .inl (hseen.2 (.inl ⟨of_decide_eq_true (by assumption), of_decide_eq_true (by assumption)⟩)))]
      all_goals
        refine WpC_loopI (fun k en g' => ∃ j : Nat, k = i - j ∧ j ≤ i ∧ en 8 = V.int j ∧ en 6 = V.int i ∧ en 2 = .eptr (ndC p lp) 0 ∧ en 3 = .eptr (ndC y lw) 0 ∧ en 7 = .eptr (ndC y.l[i] lv2) 0 ∧ (∀ m (hm : m < y.l.length), m < j → y.l[m].s ≠ y.l[i].s) ∧ g' = h') i ⟨0, rfl, Nat.zero_le _, rfl, i6, i2, i3, rfl, fun m hm h => absurd h (Nat.not_lt_zero _), rfl⟩ ?_
        rintro k en g' ⟨j, rfl, hj, j8, j6, j2, j3, j7, hne, rfl⟩
        by_cases hh2 : j < i
        · have hjl : j < y.l.length := by omega
          obtain ⟨r, hr3, hr4⟩ := hl.get hjl
          obtain ⟨lv3, rfl, hl3⟩ := hr4.open
          (simp only [SQ, zm, AOp.opds, step, Opd.get, bin, zc, IntKind.signed, zj, zl, zb, unary, ze, zd, za, zo, zr, zh, zf, zg, zp, Cp.isFull, isNil, zq, simprocAttr, SQX, V.cells, j8, j6, j2, j3, j7, hh2, hr3, hr1, zE, list_eq]; repeat' ((first | refine condQ_i ?_ ?_ | refine guardQ_t ?_ ?_ | refine guardQ_f ?_ ?_) <;> (intro hb; simp only [SQ, zm, AOp.opds, step, Opd.get, bin, zc, IntKind.signed, zj, zl, zb, unary, ze, zd, za, zo, zr, zh, zf, zg, zp, Cp.isFull, isNil, zq, simprocAttr, SQX, V.cells, hb, j8, j6, j2, j3, j7, hh2, hr3, hr1, zE, list_eq])))
          · have q := of_decide_eq_true (by assumption)
            rw [again (by rw [Bool.or_eq_true]; exact .inl (hseen.2 (.inr ⟨j, hjl, hh2, q⟩)))]
          · have q := of_decide_eq_false (by assumption)
            refine ⟨i - (j + 1), by omega, j + 1, rfl, by omega, by rw [wrap_i64 (by omega) (by omega)]; rfl, fun m hm h => ?_⟩
            by_cases e : m = j
            · subst e; exact q
            · exact hne m hm (by omega)
        · have hji : j = i := by omega
          have hin : inB st.1 y.l[i].s = false := by
            rw [← Bool.not_eq_true]
            intro q
            rcases hseen.1 q with ⟨q1, q2⟩ | ⟨m, hm, q1, q2⟩
            · simp_all
            · exact hne m hm (by omega) q2
          rw [hin] at hRi
          (simp only [SQ, zm, AOp.opds, step, Opd.get, bin, zc, IntKind.signed, zj, zl, zb, unary, ze, zd, za, zo, zr, zh, zf, zg, zp, Cp.isFull, isNil, zq, simprocAttr, SQX, V.cells, j8, j6, j2, j3, j7, hh2, hr1]; repeat' ((first | refine condQ_i ?_ ?_ | refine guardQ_t ?_ ?_ | refine guardQ_f ?_ ?_) <;> (intro hb; simp only [SQ, zm, AOp.opds, step, Opd.get, bin, zc, IntKind.signed, zj, zl, zb, unary, ze, zd, za, zo, zr, zh, zf, zg, zp, Cp.isFull, isNil, zq, simprocAttr, SQX, V.cells, hb, j8, j6, j2, j3, j7, hh2, hr1])))
          all_goals first
            | (have e : R (declF G y (y.l.take (i + 1))).2 = (y.l[i].line, 28) := by
                 rw [hRi]
                 simp_all [R, hitE, wrongE]
               rw [hpi (by rw [e]; simp), e]
               done)
            | (refine ⟨N - (i + 1), by omega, i + 1, rfl, by omega, by rw [wrap_i64 (by omega) (by omega)]; rfl, ?_⟩
               rw [hRi]
               simp_all [R, hitE, wrongE]
               done)
    · have : i = N := by omega
      subst this
      simp only [SQ, SQB, zm, AOp.opds, step, Opd.get, bin, zc, IntKind.signed, zj, zl, zb, unary, ze, zd, za, zo, zr, zh, zf, zg, zp, Cp.isFull, isNil, zq, simprocAttr, SQX, V.cells, i6, i2, i3, ll, hsub, hh]
      exact hR
  rintro en2 h2 ⟨f2, f3, hR, rfl⟩
  obtain ⟨r, hr1, hr2⟩ := hl.get hNl
  obtain ⟨lv2, rfl, hl2⟩ := hr2.open
  have hw := fun base h => hwk y.l[N] base _ h hr2
  have hfin : R (itemL p y) = R (walkL (fun s => kindN s p y) (fun t => (procN p.l t).n) y.l[N]) := by
    rw [hitem, R_app (declF_nos G y _), hR]
    rfl
  rw [hfin]
  simp only [SQ, SQB, zm, AOp.opds, step, Opd.get, bin, zc, IntKind.signed, zj, zl, zb, unary, ze, zd, za, zo, zr, zh, zf, zg, zp, Cp.isFull, isNil, zq, simprocAttr, SQX, V.cells, f2, f3, ll, hsub, hr1, zC, zn (hw _ _)]
end
section
inductive Rch (p : List Nd) : ByteArray → ByteArray → Prop
  | refl (s) : Rch p s s
  | step {s t u} : t ∈ callsN (procN p s) [] → Rch p t u → Rch p s u
theorem Rch.snoc {p : List Nd} {s t u : ByteArray} (h : Rch p s t) (hu : u ∈ callsN (procN p t) []) : Rch p s u := by
  induction h with
  | refl s => exact .step hu (.refl u)
  | step h1 _ ih => exact .step h1 (ih hu)
def cyc (p : List Nd) (y : Nd) : Prop := ∃ s ∈ callsN y [], Rch p s y.s
noncomputable def cycB (p : List Nd) (y : Nd) : Bool := @decide (cyc p y) (Classical.propDecidable _)
theorem cycB_t {p : List Nd} {y : Nd} (h : cyc p y) : cycB p y = true := @decide_eq_true _ (Classical.propDecidable _) h
theorem cycB_f {p : List Nd} {y : Nd} (h : ¬ cyc p y) : cycB p y = false := @decide_eq_false _ (Classical.propDecidable _) h
mutual
def tgN : Nd → List ByteArray
  | .mk k _ t _ _ _ l => (if k = 18 then [t] else []) ++ tgL l
def tgL : List Nd → List ByteArray
  | [] => []
  | y :: r => tgN y ++ tgL r
end
mutual
theorem mem_callsN (s : ByteArray) : ∀ (y : Nd) (out : List ByteArray), s ∈ callsN y out ↔ s ∈ out ∨ s ∈ tgN y
  | .mk k _ t _ _ _ l, out => by
    simp only [callsN, tgN, mem_callsL s l, List.mem_append]
    by_cases hk : k = 18
    · cases hb : inB out t
      · simp [hk]; constructor
        · rintro ((h | h) | h)
          · exact .inl h
          · exact .inr (.inl h)
          · exact .inr (.inr h)
        · rintro (h | h | h)
          · exact .inl (.inl h)
          · exact .inl (.inr h)
          · exact .inr h
      · have := (inB_iff _ _).1 hb
        simp [hk]
        constructor
        · rintro (h | h)
          · exact .inl h
          · exact .inr (.inr h)
        · rintro (h | h | h)
          · exact .inl h
          · subst h; exact .inl this
          · exact .inr h
    · simp [hk]
theorem mem_callsL (s : ByteArray) : ∀ (l : List Nd) (out : List ByteArray), s ∈ callsL l out ↔ s ∈ out ∨ s ∈ tgL l
  | [], out => by simp [callsL, tgL]
  | y :: r, out => by
    simp only [callsL, tgL, mem_callsL s r, mem_callsN s y, List.mem_append, or_assoc]
end
mutual
theorem pre_callsN : ∀ (y : Nd) (out : List ByteArray), ∃ m, callsN y out = out ++ m
  | .mk k _ t _ _ _ l, out => by
    obtain ⟨m, hm⟩ := pre_callsL l (if k = 18 ∧ inB out t = false then out ++ [t] else out)
    simp only [callsN, hm]
    split
    · exact ⟨_, List.append_assoc ..⟩
    · exact ⟨_, rfl⟩
theorem pre_callsL : ∀ (l : List Nd) (out : List ByteArray), ∃ m, callsL l out = out ++ m
  | [], out => ⟨[], by simp [callsL]⟩
  | y :: r, out => by
    obtain ⟨m1, h1⟩ := pre_callsN y out
    obtain ⟨m2, h2⟩ := pre_callsL r (callsN y out)
    exact ⟨m1 ++ m2, by simp only [callsL, h2]; rw [h1, List.append_assoc]⟩
end
mutual
theorem nodup_callsN : ∀ (y : Nd) (out : List ByteArray), out.Nodup → (callsN y out).Nodup
  | .mk k _ t _ _ _ l, out, h => by
    simp only [callsN]
    refine nodup_callsL l _ ?_
    split
    · rename_i q
      rw [List.nodup_append]
      refine ⟨h, by simp, fun a ha b hb e => ?_⟩
      simp only [List.mem_cons, List.not_mem_nil, or_false] at hb
      subst hb; subst e
      have := (inB_iff out a).2 ha
      rw [q.2] at this
      simp at this
    · exact h
theorem nodup_callsL : ∀ (l : List Nd) (out : List ByteArray), out.Nodup → (callsL l out).Nodup
  | [], out, h => h
  | y :: r, out, h => nodup_callsL r _ (nodup_callsN y out h)
end
theorem nodup_len : ∀ {l m : List ByteArray}, l.Nodup → (∀ s ∈ l, s ∈ m) → l.length ≤ m.length
  | [], m, _, _ => by simp
  | a :: l, m, hn, hs => by
    have hn' := List.nodup_cons.1 hn
    obtain ⟨p, r, rfl⟩ := List.append_of_mem (hs a (by simp))
    have := nodup_len (l := l) (m := p ++ r) hn'.2 fun s h => by
      have := hs s (by simp [h])
      simp only [List.mem_append, List.mem_cons] at this ⊢
      rcases this with h1 | h1 | h1
      · exact .inl h1
      · subst h1; exact absurd h hn'.1
      · exact .inr h1
    simp only [List.length_append, List.length_cons] at this ⊢
    omega
mutual
theorem tg_len : ∀ y : Nd, (tgN y).length ≤ szN y
  | .mk k _ t _ _ _ l => by
    have := tgL_len l
    simp only [tgN, szN, List.length_append]
    split <;> simp <;> omega
theorem tgL_len : ∀ l : List Nd, (tgL l).length ≤ szL l
  | [] => by simp [tgL]
  | y :: r => by
    have := tg_len y
    have := tgL_len r
    simp only [tgL, szL, List.length_append]
    omega
end
theorem tgL_mem {s : ByteArray} {y : Nd} : ∀ {l : List Nd}, y ∈ l → s ∈ tgN y → s ∈ tgL l
  | [], h, _ => by simp at h
  | z :: r, h, hs => by
    simp only [tgL, List.mem_append]
    rcases List.mem_cons.1 h with rfl | h
    · exact .inl hs
    · exact .inr (tgL_mem h hs)
theorem procN_mem (t : ByteArray) : ∀ (l : List Nd) (z : Nd), l.foldl (fun a y => if y.kind = 3 ∧ y.s = t then y else a) z = z ∨ l.foldl (fun a y => if y.kind = 3 ∧ y.s = t then y else a) z ∈ l
  | [], z => .inl rfl
  | y :: r, z => by
    rw [List.foldl_cons]
    rcases procN_mem t r (if y.kind = 3 ∧ y.s = t then y else z) with h | h
    · rw [h]
      split
      · exact .inr (by simp)
      · exact .inl rfl
    · exact .inr (List.mem_cons_of_mem _ h)
theorem proc_in {p : List Nd} (t : ByteArray) : procN p t = zN ∨ procN p t ∈ p := procN_mem t p zN
theorem proc_tg {p : List Nd} {s t : ByteArray} (h : s ∈ callsN (procN p t) []) : s ∈ tgL p := by
  rw [mem_callsN] at h
  rcases h with h | h
  · simp at h
  · rcases proc_in (p := p) t with e | e
    · rw [e] at h; simp [tgN, tgL] at h
    · exact tgL_mem e h
theorem proc_sz {p : Nd} (t : ByteArray) : szN (procN p.l t) ≤ szN p := by
  have := szN_eq p
  rcases proc_in (p := p.l) t with e | e
  · rw [e]; show 1 + 0 ≤ szN p; omega
  · have := sz_child e; omega
def itemsL (p : Nd) (l : List Nd) : List Ck := l.flatMap fun y => if y.kind = 2 then [] else itemL p y
noncomputable def cycL (p : List Nd) (l : List Nd) : List Ck := l.flatMap fun y => if y.kind = 3 then [(cycB p y, y.line, 27)] else []
noncomputable def checkL (p : Nd) : List Ck := (globF p.l).2.2 ++ (thrL p.l ++ (itemsL p p.l ++ cycL p.l p.l))
theorem itemsL_take {p : Nd} {l : List Nd} {i : Nat} (hi : i < l.length) : itemsL p (l.take (i + 1)) = itemsL p (l.take i) ++ (if l[i].kind = 2 then [] else itemL p l[i]) := by
  unfold itemsL
  rw [List.take_add_one, List.getElem?_eq_getElem hi, List.flatMap_append]
  simp
theorem cycL_take {p l : List Nd} {i : Nat} (hi : i < l.length) : cycL p (l.take (i + 1)) = cycL p (l.take i) ++ (if l[i].kind = 3 then [(cycB p l[i], l[i].line, 27)] else []) := by
  unfold cycL
  rw [List.take_add_one, List.getElem?_eq_getElem hi, List.flatMap_append]
  simp
theorem fold_ext {α : Type} {f : α → Nd → α} {g : α → List Ck} (hf : ∀ a y, ∃ m, g (f a y) = g a ++ m) : ∀ (l : List Nd) (a : α), ∃ m, g (l.foldl f a) = g a ++ m
  | [], a => ⟨[], by simp⟩
  | y :: r, a => by
    obtain ⟨m1, h1⟩ := hf a y
    obtain ⟨m2, h2⟩ := fold_ext hf r (f a y)
    exact ⟨m1 ++ m2, by rw [List.foldl_cons, h2, h1, List.append_assoc]⟩
theorem fold_pre {α : Type} {f : α → Nd → α} {g : α → List Ck} (hf : ∀ a y, ∃ m, g (f a y) = g a ++ m) (l : List Nd) (a : α) (i : Nat) : ∃ m, g (l.foldl f a) = g ((l.take i).foldl f a) ++ m := by
  obtain ⟨m, h⟩ := fold_ext hf (l.drop i) ((l.take i).foldl f a)
  refine ⟨m, ?_⟩
  rw [← h, ← List.foldl_append, List.take_append_drop]
theorem gStepC_ext (a : List ByteArray × Int × List Ck) (y : Nd) : ∃ m, (gStepC a y).2.2 = a.2.2 ++ m := by
  unfold gStepC
  split
  · exact ⟨[], by simp⟩
  · exact ⟨_, rfl⟩
theorem tStep_ext (a : Int × List Ck) (y : Nd) : ∃ m, (tStep a y).2 = a.2 ++ m := by
  unfold tStep
  split
  · exact ⟨_, rfl⟩
  · exact ⟨[], by simp⟩
theorem fold_nos {α : Type} {f : α → Nd → α} {g : α → List Ck} (hf : ∀ a y, nosL (g a) → nosL (g (f a y))) : ∀ (l : List Nd) (a : α), nosL (g a) → nosL (g (l.foldl f a))
  | [], a, h => h
  | y :: r, a, h => fold_nos hf r _ (hf a y h)
theorem nosL_nil : nosL [] := fun c hc => by simp at hc
theorem globF_nos (l : List Nd) : nosL (globF l).2.2 := fold_nos (g := fun a : List ByteArray × Int × List Ck => a.2.2) (fun a y h => by
  unfold gStepC
  split
  · exact h
  · refine nosL_app h fun c hc => ?_
    rcases List.mem_cons.1 hc with rfl | hc
    · simp
    · split at hc
      · simp only [List.mem_cons, List.not_mem_nil, or_false] at hc; subst hc; simp
      · simp at hc) l ([], 0, []) nosL_nil
theorem thrF_nos (l : List Nd) : nosL (thrF l).2 := fold_nos (g := fun a : Int × List Ck => a.2) (fun a y h => by
  unfold tStep
  split
  · refine nosL_app h fun c hc => ?_
    simp only [List.mem_cons, List.not_mem_nil, or_false] at hc; subst hc; simp
  · exact h) l (0, []) nosL_nil
theorem thrL_nos (l : List Nd) : nosL (thrL l) := nosL_app (thrF_nos l) fun c hc => by simp only [List.mem_cons, List.not_mem_nil, or_false] at hc; subst hc; simp
theorem itemL_nos (p y : Nd) : nosL (itemL p y) := nosL_app (declF_nos _ _ _) (nos_walk _ _ _)
theorem itemsL_nos (p : Nd) (l : List Nd) : nosL (itemsL p l) := fun c hc => by
  unfold itemsL at hc
  obtain ⟨y, _, hy⟩ := List.mem_flatMap.1 hc
  split at hy
  · simp at hy
  · exact itemL_nos p y c hy
theorem cycL_nos (p l : List Nd) : nosL (cycL p l) := fun c hc => by
  unfold cycL at hc
  obtain ⟨y, _, hy⟩ := List.mem_flatMap.1 hc
  split at hy
  · simp only [List.mem_cons, List.not_mem_nil, or_false] at hy; subst hy; simp
  · simp at hy
theorem gseen_iff {l : List Nd} (s : ByteArray) : ∀ {i : Nat}, i ≤ l.length → (inB (globF (l.take i)).1 s = true ↔ ∃ j, ∃ hj : j < l.length, j < i ∧ l[j].kind ≠ 4 ∧ l[j].s = s)
  | 0, _ => by simp [globF, inB_nil]
  | i + 1, hi => by
    have hh : i < l.length := by omega
    have ih := gseen_iff (l := l) s (i := i) (by omega)
    have hf : globF (l.take (i + 1)) = gStepC (globF (l.take i)) l[i] := foldl_take hh
    rw [hf]
    unfold gStepC
    by_cases k : l[i].kind = 4
    · rw [if_pos k, ih]
      constructor
      · rintro ⟨j, hj, h1, h2⟩; exact ⟨j, hj, by omega, h2⟩
      · rintro ⟨j, hj, h1, h2, h3⟩
        have : j ≠ i := by rintro rfl; exact h2 k
        exact ⟨j, hj, by omega, h2, h3⟩
    · rw [if_neg k]
      simp only [inB_cons, Bool.or_eq_true, decide_eq_true_eq, ih]
      constructor
      · rintro (h | ⟨j, hj, h1, h2⟩)
        · exact ⟨i, hh, by omega, k, h⟩
        · exact ⟨j, hj, by omega, h2⟩
      · rintro ⟨j, hj, h1, h2, h3⟩
        by_cases q : j = i
        · subst q; exact .inl h3
        · exact .inr ⟨j, hj, by omega, h2, h3⟩
theorem loadV_e {h : Heap} {n : Option Nat} {cs : List V} {off : Nat} : zl h n (.eptr cs off) = zb n cs off := rfl
theorem loadV_p {h : Heap} {b off : Nat} {n : Option Nat} {t : TypeId} {cs : List V} (hb : h[b]? = some (.box t cs)) : zl h n (.ptr b off) = zb n cs off := by simp only [zl, hb]
theorem app_get {H E : Heap} {b : Nat} {o : Obj} (h : H[b]? = some o) : (H ++ E)[b]? = some o := ext_mono h
theorem app_set {H E : Heap} {b : Nat} {o p : Obj} (h : H[b]? = some o) : (H ++ E).set b p = H.set b p ++ E := List.set_append_left _ _ (List.getElem?_eq_some_iff.1 h).1
def ItemsOk (p : Nd) : Prop := ∀ y ∈ p.l, y.kind ≠ 2 → 0 < y.l.length ∧ ∀ j (hj : j < y.l.length), j < y.l.length - 1 → y.l[j].kind ≠ 7
theorem lastN_last {nm : ByteArray → Bool} {lo hi : Int} : ∀ {l : List Nd}, lastN nm lo hi l = true → (l.getD (l.length - 1) zN).kind = 7
  | [], h => by simp [lastN] at h
  | [x], h => by simp only [lastN, Bool.and_eq_true, decide_eq_true_eq] at h; exact h.1
  | x :: y :: r, h => by
    simp only [lastN, Bool.and_eq_true, decide_eq_true_eq] at h
    have ih := lastN_last (l := y :: r) h.2
    simpa using ih
theorem lastN_ok {nm : ByteArray → Bool} {lo hi : Int} (h7 : 7 < lo ∨ hi < 7) : ∀ {l : List Nd}, lastN nm lo hi l = true → 0 < l.length ∧ ∀ j (hj : j < l.length), j < l.length - 1 → l[j].kind ≠ 7
  | [], h => by simp [lastN] at h
  | [x], h => ⟨by simp, fun j hj h => by simp at h⟩
  | x :: y :: r, h => by
    simp only [lastN, Bool.and_eq_true, decide_eq_true_eq] at h
    obtain ⟨⟨h1, _⟩, h2⟩ := h
    have ih := lastN_ok h7 (l := y :: r) h2
    refine ⟨by simp, fun j hj hjl => ?_⟩
    cases j with
    | zero => simp only [List.getElem_cons_zero]; omega
    | succ j =>
      simp only [List.getElem_cons_succ]
      refine ih.2 j (by simpa using hj) ?_
      simp only [List.length_cons] at hjl ⊢
      omega
theorem may_items {p : Nd} (h : okK zA 1 1 p = true) : ItemsOk p := by
  intro y hy hk
  cases p with
  | mk k s t n o ln l =>
    simp only [okK, Bool.and_eq_true, decide_eq_true_eq] at h
    obtain ⟨hk1, h⟩ := h
    have hk1 : k = 1 := by simp only [Nd.kind] at hk1; omega
    simp only [mayN, hk1, if_true, Bool.and_eq_true] at h
    have h := h.2
    rw [allN_all, List.all_eq_true] at h
    have h := h y hy
    simp only [okK, Bool.and_eq_true, decide_eq_true_eq] at h
    obtain ⟨hk2, h⟩ := h
    cases y with
    | mk k2 s2 t2 n2 o2 ln2 l2 =>
      simp only [Nd.kind] at hk hk2
      simp only [mayN, Bool.and_eq_true] at h
      have h := h.2
      have : k2 = 3 ∨ k2 = 4 := by omega
      rcases this with rfl | rfl
      · simp only [show ¬ (3 : Int) = 1 by decide, if_false, if_true, Bool.and_eq_true] at h
        exact lastN_ok (.inr (by decide)) h.1
      · simp only [show ¬ (4 : Int) = 1 by decide, show ¬ (4 : Int) = 3 by decide, if_false, if_true] at h
        exact lastN_ok (.inr (by decide)) h
theorem may_last {p : Nd} (h : okK zA 1 1 p = true) : ∀ y ∈ p.l, y.kind ≠ 2 → (y.l.getD (y.l.length - 1) zN).kind = 7 := by
  intro y hy hk
  cases p with
  | mk k s t n o ln l =>
    simp only [okK, Bool.and_eq_true, decide_eq_true_eq] at h
    obtain ⟨hk1, h⟩ := h
    have hk1 : k = 1 := by simp only [Nd.kind] at hk1; omega
    simp only [mayN, hk1, if_true, Bool.and_eq_true] at h
    have h := h.2
    rw [allN_all, List.all_eq_true] at h
    have h := h y hy
    simp only [okK, Bool.and_eq_true, decide_eq_true_eq] at h
    obtain ⟨hk2, h⟩ := h
    cases y with
    | mk k2 s2 t2 n2 o2 ln2 l2 =>
      simp only [Nd.kind] at hk hk2
      simp only [mayN, Bool.and_eq_true] at h
      have h := h.2
      have : k2 = 3 ∨ k2 = 4 := by omega
      rcases this with rfl | rfl
      · simp only [show ¬ (3 : Int) = 1 by decide, if_false, if_true, Bool.and_eq_true] at h
        exact lastN_last h.1
      · simp only [show ¬ (4 : Int) = 1 by decide, show ¬ (4 : Int) = 3 by decide, if_false, if_true] at h
        exact lastN_last h
end
section
def consO (o : Option Nat) (l : List Nat) : List Nat := match o with | some b => b :: l | none => l
def keepL (en : Env) : List Nat → List Nat
  | [] => []
  | t :: ts => consO (blockOf (en t)) (keepL en ts)
theorem consO_some {b : Nat} {l : List Nat} : consO (some b) l = b :: l := rfl
theorem consO_none {l : List Nat} : consO none l = l := rfl
theorem keep_iff {en : Env} {h h' : Heap} : ∀ {ts : List Nat}, keepB en h h' ts = true ↔ ∀ b ∈ keepL en ts, h'[b]? = h[b]?
  | [] => by simp [keepB, keepL]
  | t :: ts => by
    have ih := keep_iff (en := en) (h := h) (h' := h') (ts := ts)
    simp only [keepB, List.all_cons, Bool.and_eq_true, keepL] at ih ⊢
    cases hb : blockOf (en t) with
    | none => simp only [consO_none]; rw [← ih]; simp
    | some b =>
      simp only [consO_some, List.mem_cons, forall_eq_or_imp]
      rw [← ih, eqOO_iff]
      constructor
      · rintro ⟨a, c⟩; exact ⟨a.symm, c⟩
      · rintro ⟨a, c⟩; exact ⟨a.symm, c⟩
def callKD (S : Fns) (base : Nat) (t : Option (FuncId × List V)) (bs : List Nat) (dst : Option Nat) (r : List AOper) (en : Env) (h : Heap) (Q : Env → Heap → Prop) : Prop :=
  match t with
  | some (k, vs) => WpF S base k vs h fun v h1 => (∀ b ∈ bs, h1[b]? = h[b]?) ∧ WpO S base r (en.put dst v) h1 Q
  | none => False
section
variable {S : Fns} {base : Nat} {dst : Option Nat} {r : List AOper} {en : Env} {Q : Env → Heap → Prop} {h : Heap}
theorem WpO_callKD {f : Opd} {args : List Opd} {ts : List Nat} : WpO S base (⟨dst, .callK f args ts, none, []⟩ :: r) en h Q ↔ callKD S base (zr (f.get en) (zh en args)) (keepL en ts) dst r en h Q := by
  have ev : ∀ n, evVal (evCall S.X S.F n) base ⟨dst, .callK f args ts, none, []⟩ en h = match zr (f.get en) (zh en args) with
      | some (k, vs) => match evCall S.X S.F n base k vs h with
        | some (v, h') => if keepB en h h' ts = true then some (v, h') else none
        | none => none
      | none => none := fun n => by simp only [evVal, evOper, offOk, List.all_nil, if_true, evOp]; rfl
  constructor
  · rintro ⟨n, en', h', e, q⟩
    rw [evOps_cons, Option.bind_eq_some_iff] at e
    obtain ⟨⟨v, h1⟩, e1, e2⟩ := e
    rw [ev] at e1
    cases ht : zr (f.get en) (zh en args) with
    | none => rw [ht] at e1; simp at e1
    | some p =>
      obtain ⟨k, vs⟩ := p
      rw [ht] at e1
      simp only at e1
      split at e1
      · rename_i v' h'' e3
        split at e1
        · rename_i hk
          simp only [Option.some.injEq, Prod.mk.injEq] at e1
          obtain ⟨rfl, rfl⟩ := e1
          exact ⟨n, _, _, e3, keep_iff.1 hk, n, en', h', e2, q⟩
        · simp at e1
      · simp at e1
  · intro hq
    cases ht : zr (f.get en) (zh en args) with
    | none => rw [ht] at hq; exact hq.elim
    | some p =>
      obtain ⟨k, vs⟩ := p
      rw [ht] at hq
      obtain ⟨n, v, h1, e1, hk, m, en', h', e2, q⟩ := hq
      refine ⟨max n m, en', h', ?_, q⟩
      rw [evOps_cons, ev, ht]
      simp only [evCall_mono (X := S.X) (F := S.F) (Nat.le_max_left n m) _ _ _ _ _ e1, keep_iff.2 hk, if_true, Option.bind_some]
      exact evOps_mono (evCall_mono (Nat.le_max_right n m)) e2
theorem callKD_some {k : FuncId} {vs : List V} {bs : List Nat} : callKD S base (some (k, vs)) bs dst r en h Q = WpF S base k vs h fun v h1 => (∀ b ∈ bs, h1[b]? = h[b]?) ∧ WpO S base r (en.put dst v) h1 Q := rfl
theorem callKD_ret {k : FuncId} {vs : List V} {bs : List Nat} {h0 : Heap} {v0 : V} (hw : WpF S base k vs h fun v h' => v = v0 ∧ h' = h0) : callKD S base (some (k, vs)) bs dst r en h Q ↔ (∀ b ∈ bs, h0[b]? = h[b]?) ∧ WpO S base r (en.put dst v0) h0 Q := WpF_iff (Q := fun v h1 => (∀ b ∈ bs, h1[b]? = h[b]?) ∧ WpO S base r (en.put dst v) h1 Q) hw
end
theorem appNil {base : Nat} {h : Heap} {t : TypeId} {sz : Nat} {new : List (List V)} (hn : new ≠ []) (hl : new.length ≤ lim) (ho : newOk sz new = true) : appendV base h t sz (.sc (.slice none 0 0)) new = some (.hsl h.length 0 0 new.length, h ++ [.row t sz 0 new]) := by
  cases new with
  | nil => exact absurd rfl hn
  | cons r rs => simp only [appendV]; rw [if_pos ⟨hl, ho⟩]
theorem appHsl {base b e : Nat} {h : Heap} {t : TypeId} {sz : Nat} {rs new : List (List V)} (hg : h[b]? = some (.row t sz e rs)) (hn : new ≠ []) (hl : rs.length + new.length ≤ lim) (ho : newOk sz new = true) (hb : base ≤ b) : appendV base h t sz (.hsl b e 0 rs.length) new = some (.hsl b (e + 1) 0 (rs.length + new.length), h.set b (.row t sz (e + 1) (rs ++ new))) := by
  cases new with
  | nil => exact absurd rfl hn
  | cons r r2 =>
    simp only [appendV, hg]
    rw [if_pos ⟨trivial, trivial, trivial, Nat.le_refl _, hl, ho, List.all_eq_true.2 fun x _ => by simp [mayStore, hb]⟩, List.take_of_length_le (Nat.le_refl _)]
end
end Go.Am
