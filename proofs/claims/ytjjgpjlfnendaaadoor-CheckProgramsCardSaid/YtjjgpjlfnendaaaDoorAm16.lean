/- The abstract machine and what is proved in it, part 16. -/
import Derived.Test.YtjjgpjlfnendaaaDoorAm15
set_option linter.unusedVariables false
set_option linter.unusedSimpArgs false
namespace Go.Am
section
theorem other_r {base : Nat} (s a b : ByteArray) (h : Heap) : WpF S0 base k_spinnakerlaw25_other [.sc (.string s), .sc (.string a), .sc (.string b)] h fun v h' => v = .sc (.string (othB a b s)) ∧ h' = h := by
  first | refine zu (A := f_spinnakerlaw25_other) rfl rfl rfl rfl ?_ | refine zB (A := f_spinnakerlaw25_other) rfl rfl rfl rfl ?_
  simp only [f_spinnakerlaw25_other, oD, cD]
  (simp only [SQ, zm, AOp.opds, step, Opd.get, zk, bin, zc, IntKind.signed, zi, zj, zl, zb, unary, ze, zd, za, zo, zr, zh, zf, zg, zp, Cp.isFull, isNil, zq, simprocAttr, -List.reduceReplicate, SQX, V.cells, zE, list_eq]; repeat' ((first | refine condQ_i ?_ ?_ | refine guardQ_t ?_ ?_ | refine guardQ_f ?_ ?_) <;> (intro hb; simp only [SQ, zm, AOp.opds, step, Opd.get, zk, bin, zc, IntKind.signed, zi, zj, zl, zb, unary, ze, zd, za, zo, zr, zh, zf, zg, zp, Cp.isFull, isNil, zq, simprocAttr, -List.reduceReplicate, SQX, V.cells, hb, zE, list_eq])))
  all_goals simp_all [othB]
def OwnR (n : Nat) (v : V) (rs : List (List V)) (tail : Heap) : Prop := (v = .sc (.slice none 0 0) ∧ rs = [] ∧ tail = []) ∨ ∃ e, v = .hsl n e 0 rs.length ∧ tail = [.row 24 7 e rs]
theorem NdR.snoc : ∀ {l : List Nd} {rows : List (List V)} {x : Nd} {r : List V}, NdR l rows → NdV x r → NdR (l ++ [x]) (rows ++ [r])
  | [], rows, x, r, h, hx => by simp only [NdR] at h; subst h; exact ⟨r, [], rfl, hx, rfl⟩
  | y :: l, rows, x, r, h, hx => by
    simp only [NdR] at h
    obtain ⟨r0, rest, rfl, h1, h2⟩ := h
    exact ⟨r0, rest ++ [r], rfl, h1, NdR.snoc h2 hx⟩
theorem NdR.ground : ∀ {l : List Nd} {rows : List (List V)}, NdR l rows → (rows.all fun r => r.all ground) = true
  | [], rows, h => by simp only [NdR] at h; subst h; rfl
  | x :: l, rows, h => by
    simp only [NdR] at h
    obtain ⟨r, rest, rfl, h1, h2⟩ := h
    obtain ⟨lv, rfl, hl⟩ := h1.open
    simp only [List.all_cons, List.all_nil, NdR.ground h2, ground_sc, hl.gr, Bool.and_true]
theorem store1 {base b : Nat} {h : Heap} {cs : List V} {off : Nat} {v : V} (hb : h[b]? = some (.box 24 cs)) (hv : v.cells = [v]) (h1 : zm v = true) (ho : off < cs.length) (hm : base ≤ b) : storeV base h 1 (.ptr b off) v = some (h.set b (.box 24 (putCells cs off [v]))) := by
  have := store_box (t := 24) (cs := cs) (off := off) (x := v) (n := 1) hb (by rw [hv]; rfl) (by rw [hv]; simp [h1]) (by omega) (by rw [hv]; exact may_le hm)
  rw [this, hv]
abbrev ndK (k : Int) (s t : ByteArray) (n o ln : Int) (lv : V) : List V := [.sc (.int .i64 k), .sc (.string s), .sc (.string t), .sc (.int .i64 n), .sc (.int .i64 o), .sc (.int .i64 ln), lv]
theorem putK1 {k n o ln : Int} {s t u : ByteArray} {lv : V} : putCells (ndK k s t n o ln lv) 1 [.sc (.string u)] = ndK k u t n o ln lv := rfl
theorem putK2 {k n o ln : Int} {s t u : ByteArray} {lv : V} : putCells (ndK k s t n o ln lv) 2 [.sc (.string u)] = ndK k s u n o ln lv := rfl
theorem putK6 {k n o ln : Int} {s t : ByteArray} {lv v : V} : putCells (ndK k s t n o ln lv) 6 [v] = ndK k s t n o ln v := rfl
def RenOk (a b : ByteArray) (x : Nd) : Prop := ∀ (base : Nat) (cs : List V) (h : Heap), NdV x cs → szN x ≤ 2000 → WpF S0 base k_spinnakerlaw25_renamed [.agg cs, .sc (.string a), .sc (.string b)] h fun v h' => (∃ lv, v = .agg (ndC (renN (othB a b) x) lv) ∧ LV lv (renN (othB a b) x).l) ∧ h' = h
set_option maxHeartbeats 8000000 in
theorem renamed_r (a b : ByteArray) (n : Nat) : ∀ (x : Nd), szN x ≤ n → RenOk a b x := by
  refine n.rec (fun x hn => ?_) (fun n ih x hn => ?_)
  · cases x; simp [szN] at hn
  have hm : ∀ y ∈ x.l, RenOk a b y := fun y hy => ih y (by have := sz_child hy; omega)
  intro base cs h hv hsz
  obtain ⟨lx, rfl, hl⟩ := hv.open
  have ll := hl.len
  have lt := hl.lt
  have hszL := szN_eq x
  have hlm : lim = 2 ^ 36 := rfl
  have hlsz : x.l.length ≤ szL x.l := by
    have : ∀ l : List Nd, l.length ≤ szL l := by
      intro l
      induction l with
      | nil => simp
      | cons y r ih => have := szN_eq y; simp only [List.length_cons, szL]; omega
    exact this _
  generalize hf : othB a b = f at hm ⊢
  have hoth := fun base s h => other_r (base := base) s a b h
  rw [hf] at hoth
  first | refine zu (A := f_spinnakerlaw25_renamed) rfl rfl rfl rfl ?_ | refine zB (A := f_spinnakerlaw25_renamed) rfl rfl rfl rfl ?_
  simp only [f_spinnakerlaw25_renamed, oD, cD]
  refine zw (fun en' h' => en' 1 = .sc (.string a) ∧ en' 2 = .sc (.string b) ∧ en' 3 = .ptr h.length 0 ∧ en' 6 = .ptr (h.length + 1) 0 ∧ h' = h ++ [.box 24 (ndC x lx)] ++ [.box 24 Zn]) ?_ ?_
  · simp only [SQ, SQB, AOp.opds, step, Opd.get, zk, bin, zc, IntKind.signed, zi, zj, zl, zb, unary, ze, zd, za, zo, zr, zh, zf, zg, zp, Cp.isFull, isNil, zq, simprocAttr, -List.reduceReplicate, SQX, V.cells, oneCell_sc, hl.one, List.length_append]
  rintro en1 h1 ⟨e1, e2, e3, e6, rfl⟩
  have hp0 := fun C : List V => prH_0 (h := h) (a := ndC x lx) (b := Zn) (c := C)
  have hp2 := fun C : List V => prH_2 (h := h) (a := ndC x lx) (b := Zn) (c := C)
  refine zw (fun en' h' => en' 1 = .sc (.string a) ∧ en' 2 = .sc (.string b) ∧ en' 3 = .ptr h.length 0 ∧ en' 6 = .ptr (h.length + 1) 0 ∧ en' 7 = .ptr (h.length + 1 + 1) 0 ∧ h' = prH h (ndC x lx) Zn (ndC x lx)) ?_ ?_
  · have e : h ++ [.box 24 (ndC x lx)] ++ [.box 24 Zn] ++ [.box 24 Zn] = prH h (ndC x lx) Zn Zn := by simp [prH]
    have hb0 : (h ++ [Obj.box 24 (ndC x lx)] ++ [Obj.box 24 Zn])[h.length]? = some (.box 24 (ndC x lx)) := by simp
    have hs := store7 (base := h.length) (ds := ndC x lx) (hp2 Zn) rfl rfl (ndC_one hl) (may_le (by omega))
    simp only [SQ, SQB, AOp.opds, step, Opd.get, zk, bin, zc, IntKind.signed, zi, zj, zb, unary, ze, zd, za, zo, zr, zh, zf, zg, zp, Cp.isFull, isNil, zq, simprocAttr, -List.reduceReplicate, SQX, V.cells, e1, e2, e3, e6, loadV_p hb0, zC, List.length_append, e, hs, prH_s2]
  rintro en2 h2 ⟨e1, e2, e3, e6, e7, rfl⟩
  have hs1 := fun (C : List V) (off : Nat) (v : V) (ho : off < C.length) (hv : v.cells = [v]) (h1 : zm v = true) => store1 (base := h.length) (v := v) (hp2 C) hv h1 ho (by omega)
  refine zw (fun en' h' => en' 1 = .sc (.string a) ∧ en' 2 = .sc (.string b) ∧ en' 3 = .ptr h.length 0 ∧ en' 6 = .ptr (h.length + 1) 0 ∧ en' 7 = .ptr (h.length + 1 + 1) 0 ∧ h' = prH h (ndC x lx) Zn (ndK x.kind x.s x.t x.n x.ord x.line V.nilS)) ?_ ?_
  · have hs := hs1 (ndC x lx) 6 V.nilS (by simp) rfl rfl
    simp only [SQ, SQB, zm, AOp.opds, step, Opd.get, zk, bin, zc, IntKind.signed, zi, zj, zl, zb, unary, ze, zd, za, zo, zr, zh, zf, zg, zp, Cp.isFull, isNil, zq, simprocAttr, -List.reduceReplicate, SQX, V.cells, e1, e2, e3, e6, e7, hs, prH_s2, putK6]
  rintro en3 h3 ⟨e1, e2, e3, e6, e7, rfl⟩
  refine zw (fun en' h' => en' 1 = .sc (.string a) ∧ en' 2 = .sc (.string b) ∧ en' 3 = .ptr h.length 0 ∧ en' 6 = .ptr (h.length + 1) 0 ∧ en' 7 = .ptr (h.length + 1 + 1) 0 ∧ h' = prH h (ndC x lx) Zn (ndK x.kind (f x.s) x.t x.n x.ord x.line V.nilS)) ?_ ?_
  · have hs := hs1 (ndK x.kind x.s x.t x.n x.ord x.line V.nilS) 1 (.sc (.string (f x.s))) (by simp) rfl rfl
    simp only [SQ, SQB, zm, AOp.opds, step, Opd.get, zk, bin, zc, IntKind.signed, zi, zj, zb, unary, ze, zd, za, zo, zr, zh, zf, zg, zp, Cp.isFull, isNil, zq, simprocAttr, -List.reduceReplicate, SQX, V.cells, e1, e2, e3, e6, e7, loadV_p (hp0 _), zn (hoth _ _ _), hs, prH_s2, putK1]
  rintro en4 h4 ⟨e1, e2, e3, e6, e7, rfl⟩
  refine zw (fun en' h' => en' 1 = .sc (.string a) ∧ en' 2 = .sc (.string b) ∧ en' 3 = .ptr h.length 0 ∧ en' 6 = .ptr (h.length + 1) 0 ∧ en' 7 = .ptr (h.length + 1 + 1) 0 ∧ h' = prH h (ndC x lx) Zn (ndK x.kind (f x.s) (f x.t) x.n x.ord x.line V.nilS)) ?_ ?_
  · have hs := hs1 (ndK x.kind (f x.s) x.t x.n x.ord x.line V.nilS) 2 (.sc (.string (f x.t))) (by simp) rfl rfl
    simp only [SQ, SQB, zm, AOp.opds, step, Opd.get, zk, bin, zc, IntKind.signed, zi, zj, zb, unary, ze, zd, za, zo, zr, zh, zf, zg, zp, Cp.isFull, isNil, zq, simprocAttr, -List.reduceReplicate, SQX, V.cells, e1, e2, e3, e6, e7, loadV_p (hp0 _), zn (hoth _ _ _), hs, prH_s2, putK2]
  rintro en5 h5 ⟨e1, e2, e3, e6, e7, rfl⟩
  generalize hN : ndK x.kind (f x.s) (f x.t) x.n x.ord x.line = NK
  have hNl : ∀ v, (NK v).length = 7 := fun v => by rw [← hN]; rfl
  have hN6 : ∀ v, (NK v)[6]? = some v := fun v => by rw [← hN]; rfl
  have hNt : ∀ v, (List.drop 0 (NK v)).take 7 = NK v := fun v => by rw [← hN]; rfl
  have hNt2 : ∀ v, (NK v).take 7 = NK v := fun v => by rw [← hN]; rfl
  have hNp : ∀ v w, putCells (NK v) 6 [w] = NK w := fun v w => by rw [← hN]; rfl
  have hNo : ∀ v, zm v = true → (NK v).all zm = true := fun v h => by rw [← hN]; simp only [List.all_cons, List.all_nil, oneCell_sc, h, Bool.and_true]
  refine zw (fun en' h' => en' 6 = .ptr (h.length + 1) 0 ∧ en' 7 = .ptr (h.length + 1 + 1) 0 ∧ ∃ v rs tail, OwnR (h.length + 3) v rs tail ∧ NdR (renL f x.l) rs ∧ h' = prH h (ndC x lx) Zn (NK v) ++ tail) ?_ ?_
  · simp only [SQ, SQB, zm, AOp.opds, step, Opd.get, zk, bin, zc, IntKind.signed, zi, zj, zl, zb, unary, ze, zd, za, zo, zr, zh, zf, zg, zp, Cp.isFull, isNil, zq, simprocAttr, -List.reduceReplicate, SQX, V.cells, e1, e2, e3, e6, e7]
    refine WpC_loopI (fun k en h' => ∃ i : Nat, k = x.l.length - i ∧ i ≤ x.l.length ∧ en 8 = V.int i ∧ en 1 = .sc (.string a) ∧ en 2 = .sc (.string b) ∧ en 3 = .ptr h.length 0 ∧ en 6 = .ptr (h.length + 1) 0 ∧ en 7 = .ptr (h.length + 1 + 1) 0 ∧ ∃ v rs tail, OwnR (h.length + 3) v rs tail ∧ NdR (renL f (x.l.take i)) rs ∧ h' = prH h (ndC x lx) Zn (NK v) ++ tail) x.l.length
      ⟨0, rfl, Nat.zero_le _, rfl, e1, e2, e3, e6, e7, V.nilS, [], [], .inl ⟨rfl, rfl, rfl⟩, by simp [renL, NdR], by simp [hN]⟩ ?_
    rintro k en h' ⟨i, rfl, hi, i8, i1, i2, i3, i6, i7, v, rs, tail, hown, hrs, rfl⟩
    have g0 := app_get (E := tail) (hp0 (NK v))
    have g2 := app_get (E := tail) (hp2 (NK v))
    by_cases hh : i < x.l.length
    · obtain ⟨r, hr1, hr2⟩ := hl.get hh
      obtain ⟨lv2, rfl, hl2⟩ := hr2.open
      have hcsz := sz_child (List.getElem_mem hh)
      obtain ⟨lq, hlq, hw⟩ := callD_ex (f := fun lv => V.agg (ndC (renN f x.l[i]) lv)) (hf ▸ hm x.l[i] (List.getElem_mem hh) h.length _ (prH h (ndC x lx) Zn (NK v) ++ tail) hr2 (by omega))
      have hrl : rs.length = i := by rw [hrs.len, ren_len, List.length_take]; omega
      have hv1 : v.cells = [v] ∧ zm v = true := by
        rcases hown with ⟨rfl, _, _⟩ | ⟨e, rfl, _⟩ <;> exact ⟨rfl, rfl⟩
      obtain ⟨v', tail', happ, hown'⟩ : ∃ v' tail', appendV h.length (prH h (ndC x lx) Zn (NK v) ++ tail) 24 7 v [ndC (renN f x.l[i]) lq] = some (v', prH h (ndC x lx) Zn (NK v) ++ tail') ∧ OwnR (h.length + 3) v' (rs ++ [ndC (renN f x.l[i]) lq]) tail' := by
        have hpl : (prH h (ndC x lx) Zn (NK v)).length = h.length + 3 := by simp [prH]
        have hno : newOk 7 [ndC (renN f x.l[i]) lq] = true := by simp only [newOk, List.all_cons, List.all_nil, ndC_one hlq, Bool.and_true]; rfl
        rcases hown with ⟨rfl, rfl, rfl⟩ | ⟨e, rfl, rfl⟩
        · refine ⟨_, _, ?_, .inr ⟨0, rfl, rfl⟩⟩
          rw [List.append_nil, appNil (by simp) (by simp [lim]) hno, hpl]
          rfl
        · refine ⟨_, _, ?_, .inr ⟨e + 1, rfl, rfl⟩⟩
          have hg : (prH h (ndC x lx) Zn (NK (.hsl (h.length + 3) e 0 rs.length)) ++ [Obj.row 24 7 e rs])[h.length + 3]? = some (.row 24 7 e rs) := by
            have hpl := hpl
            generalize prH h (ndC x lx) Zn (NK (.hsl (h.length + 3) e 0 rs.length)) = B at hpl
            rw [← hpl]; simp
          rw [appHsl hg (by simp) (by simp only [List.length_cons, List.length_nil]; omega) hno (by omega)]
          generalize prH h (ndC x lx) Zn (NK (.hsl (h.length + 3) e 0 rs.length)) = B at hpl
          rw [← hpl, last_set]
          simp
      have hv1' : v'.cells = [v'] ∧ zm v' = true := by
        rcases hown' with ⟨rfl, _, _⟩ | ⟨e, rfl, _⟩ <;> exact ⟨rfl, rfl⟩
      have g2' := app_get (E := tail') (hp2 (NK v))
      have hs := store1 (base := h.length) (v := v') g2' hv1'.1 hv1'.2 (show 6 < (NK v).length by rw [hNl]; omega) (by omega)
      rw [app_set (hp2 (NK v)), prH_s2, hNp] at hs
      have hfr : zv 7 (List.replicate 1 Zn) [(0, .agg (ndC (renN f x.l[i]) lq))] = some [ndC (renN f x.l[i]) lq] := by
        simp only [zv, V.cells, ndC_one hlq]
        rfl
      have hgr : (ndC (renN f x.l[i]) lq).all ground = true := by simp only [List.all_cons, List.all_nil, ground_sc, hlq.gr, Bool.and_true]
      simp only [SQ, SQB, AOp.opds, step, Opd.get, bin, zc, IntKind.signed, zj, zb, unary, ze, zd, za, zo, zr, zh, zf, zg, zp, Cp.isFull, isNil, zq, simprocAttr, -List.reduceReplicate, SQX, V.cells, i8, i1, i2, i3, i6, i7, loadV_p g0, loadV_p g2, hN6, ll, hh, hr1, loadV_e, zC, WpO_callKD, keepL, blockOf, consO_some, consO_none, callKD_ret hw, getParts2, hfr, hgr, srcRows, elems, List.isEmpty_cons, happ, hs]
      refine ⟨fun _ _ => trivial, x.l.length - (i + 1), by omega, i + 1, rfl, by omega, by rw [wrap_i64 (by omega) (by omega)]; rfl, v', _, tail', hown', ?_, rfl⟩
      have : renL f (x.l.take (i + 1)) = renL f (x.l.take i) ++ [renN f x.l[i]] := by
        rw [renL_map, renL_map, List.take_add_one, List.getElem?_eq_getElem hh, List.map_append]
        rfl
      rw [this]
      exact hrs.snoc hlq.nd
    · have : x.l.take i = x.l := List.take_of_length_le (by omega)
      rw [this] at hrs
      simp only [SQ, SQB, zm, AOp.opds, step, Opd.get, bin, zc, IntKind.signed, zj, zb, unary, ze, zd, za, zo, zr, zh, zf, zg, zp, Cp.isFull, isNil, zq, simprocAttr, -List.reduceReplicate, SQX, V.cells, i8, i1, i2, i3, i6, i7, loadV_p g0, ll, hh]
      exact ⟨v, rs, tail, hown, hrs, rfl⟩
  rintro en6 h6 ⟨e6, e7, v, rs, tail, hown, hrs, rfl⟩
  have hpl : ∀ A B C : List V, (prH h A B C).length = h.length + 3 := fun A B C => by simp [prH]
  have hv1 : v.cells = [v] ∧ zm v = true := by
    rcases hown with ⟨rfl, _, _⟩ | ⟨e, rfl, _⟩ <;> exact ⟨rfl, rfl⟩
  have g2 := app_get (E := tail) (hp2 (NK v))
  have g1 := app_get (E := tail) (prH_1 (h := h) (a := ndC x lx) (b := Zn) (c := NK v))
  have hs := store7 (base := h.length) (ds := NK v) g1 (hNl v) rfl (hNo v hv1.2) (may_le (by omega))
  rw [app_set (prH_1 (h := h) (a := ndC x lx) (b := Zn) (c := NK v)), prH_s1] at hs
  have g3 := app_get (E := tail) (prH_1 (h := h) (a := ndC x lx) (b := NK v) (c := NK v))
  have htk : (prH h (ndC x lx) (NK v) (NK v) ++ tail).take h.length = h := by
    rw [List.take_append_of_le_length (by rw [hpl]; omega), prH_take]
  have hfz : ∀ Q : V → Prop, (∀ v', LV v' (renL f x.l) → Q v') → Frz (prH h (ndC x lx) (NK v) (NK v) ++ tail) h.length v Q := by
    intro Q hq
    have hrl := hrs.len
    rw [ren_len] at hrl
    rcases hown with ⟨rfl, rfl, rfl⟩ | ⟨e, rfl, rfl⟩
    · have : x.l = [] := List.eq_nil_of_length_eq_zero hrl.symm
      refine Frz_sc (hq _ (.inl ⟨rfl, ?_⟩))
      rw [this]; rfl
    · refine ⟨1, .slc .any 7 rs, ?_, hq _ (.inr ⟨_, _, rfl, hrs, by rw [ren_len]; omega⟩)⟩
      have hg : (prH h (ndC x lx) (NK (.hsl (h.length + 3) e 0 rs.length)) (NK (.hsl (h.length + 3) e 0 rs.length)) ++ [Obj.row 24 7 e rs])[h.length + 3]? = some (.row 24 7 e rs) := by
        have hp := hpl (ndC x lx) (NK (.hsl (h.length + 3) e 0 rs.length)) (NK (.hsl (h.length + 3) e 0 rs.length))
        generalize prH h (ndC x lx) (NK (.hsl (h.length + 3) e 0 rs.length)) (NK (.hsl (h.length + 3) e 0 rs.length)) = B at hp
        rw [← hp]; simp
      simp only [freezeV, rowAt, hg, hrs.ground, if_true]
      rw [if_neg (by omega), if_pos (by omega), List.drop_zero, List.take_of_length_le (Nat.le_refl _)]
  have hfin : ∀ v', ndC (renN f x) v' = NK v' := fun v' => by rw [← hN]; cases x; rfl
  simp only [SQ, SQB, AOp.opds, step, Opd.get, zk, bin, zc, IntKind.signed, zi, zj, zb, unary, ze, zd, za, zo, zr, zh, zf, zg, zp, Cp.isFull, isNil, zq, simprocAttr, -List.reduceReplicate, SQX, V.cells, e6, e7, loadV_p g2, hNl, hNt2, hs, loadV_p g3, htk]
  rw [ren_l]
  have hfr : ∀ Q : List V → Prop, (∀ v', LV v' (renL f x.l) → Q (NK v')) → FrzL (prH h (ndC x lx) (NK v) (NK v) ++ tail) h.length (NK v) Q := by
    intro Q hq
    have hfz2 := hfz
    rw [← hN] at hfz2 hq ⊢
    simp only [FrzL_consi, Frz_sci]
    refine hfz2 _ fun v' hv' => ?_
    simp only [FrzL_nili]
    exact hq v' hv'
  exact hfr _ fun v' hv' => ⟨v', by rw [hfin], hv'⟩
set_option maxHeartbeats 4000000 in
theorem programs_law {x : Nd} {cs : List V} (hv : NdV x cs) (hmx : mxN x ≤ 2 ^ 63) : WpF S0 0 k_spinnakerlaw25_CheckPrograms [.agg cs] [] fun v _ => v = .sc (.bool true) := by
  have hv0 := hv
  obtain ⟨lv, rfl, hl⟩ := hv.open
  first | refine zu (A := f_spinnakerlaw25_CheckPrograms) rfl rfl rfl rfl ?_ | refine zB (A := f_spinnakerlaw25_CheckPrograms) rfl rfl rfl rfl ?_
  simp only [f_spinnakerlaw25_CheckPrograms, oD, cD]
  refine zw (fun en' h' => en' 1 = .eptr (ndC x lv) 0 ∧ h' = []) ?_ ?_
  · simp only [SQ, SQB, zm, AOp.opds, step, Opd.get, zk, bin, zc, IntKind.signed, zi, zj, zl, zb, unary, ze, zd, za, zo, zr, zh, zf, zg, zp, Cp.isFull, isNil, zq, simprocAttr, -List.reduceReplicate, SQX, V.cells, hl.gr]
  rintro en1 h1 ⟨e1, rfl⟩
  obtain ⟨bl, hbl, hlarge⟩ := callD_ex (f := fun b : Bool => V.sc (.bool b)) (large_r (base := 0) [] hv0 hmx)
  cases bl
  rotate_left
  · simp only [SQ, SQB, zm, AOp.opds, step, Opd.get, zk, bin, zc, IntKind.signed, zi, zj, zl, zb, unary, ze, zd, za, zo, zr, zh, zf, zg, zp, Cp.isFull, isNil, zq, simprocAttr, -List.reduceReplicate, SQX, V.cells, e1, zC, List.length_nil, zn hlarge, zn (aw0 _), List.take_nil]
  have hsz := hbl rfl
  have h1 := fun base => check_r (base := base) [] hv0 hsz
  have h2 := fun base => refCheck_r (base := base) [] hv0 hsz
  simp only [SQ, SQB, zm, AOp.opds, step, Opd.get, zk, bin, zc, IntKind.signed, zi, zj, zl, zb, unary, ze, zd, za, zo, zr, zh, zf, zg, zp, Cp.isFull, isNil, zq, simprocAttr, -List.reduceReplicate, SQX, V.cells, e1, zC, List.length_nil, zn hlarge, zn (h1 _), zn (h2 _), zn (aw0 _), List.take_nil]
set_option maxHeartbeats 8000000 in
theorem renames_law {x : Nd} {cs : List V} (hv : NdV x cs) (hmx : mxN x ≤ 2 ^ 63) (a b : ByteArray) : WpF S0 0 k_spinnakerlaw25_CheckRenames [.agg cs, .sc (.string a), .sc (.string b)] [] fun v _ => v = .sc (.bool true) := by
  have hv0 := hv
  obtain ⟨lv, rfl, hl⟩ := hv.open
  first | refine zu (A := f_spinnakerlaw25_CheckRenames) rfl rfl rfl rfl ?_ | refine zB (A := f_spinnakerlaw25_CheckRenames) rfl rfl rfl rfl ?_
  simp only [f_spinnakerlaw25_CheckRenames, oD, cD]
  refine zw (fun en' h' => en' 3 = .eptr (ndC x lv) 0 ∧ en' 1 = .sc (.string a) ∧ en' 2 = .sc (.string b) ∧ h' = []) ?_ ?_
  · simp only [SQ, SQB, zm, AOp.opds, step, Opd.get, zk, bin, zc, IntKind.signed, zi, zj, zl, zb, unary, ze, zd, za, zo, zr, zh, zf, zg, zp, Cp.isFull, isNil, zq, simprocAttr, -List.reduceReplicate, SQX, V.cells, hl.gr]
  rintro en1 h1 ⟨e3, e1, e2, rfl⟩
  obtain ⟨bl, hbl, hlarge⟩ := callD_ex (f := fun b : Bool => V.sc (.bool b)) (large_r (base := 0) [] hv0 hmx)
  cases bl
  rotate_left
  · simp only [SQ, SQB, zm, AOp.opds, step, Opd.get, zk, bin, zc, IntKind.signed, zi, zj, zl, zb, unary, ze, zd, za, zo, zr, zh, zf, zg, zp, Cp.isFull, isNil, zq, simprocAttr, -List.reduceReplicate, SQX, V.cells, e3, zC, List.length_nil, zn hlarge, zn (aw0 _), List.take_nil]
  have hsz := hbl rfl
  cases hna : zA a
  · simp only [SQ, SQB, zm, AOp.opds, step, Opd.get, zk, bin, zc, IntKind.signed, zi, zj, zl, zb, unary, ze, zd, za, zo, zr, zh, zf, zg, zp, Cp.isFull, isNil, zq, simprocAttr, -List.reduceReplicate, SQX, V.cells, e1, e2, e3, zC, List.length_nil, zn hlarge, zn (refName_r _ _), hna, zn (aw0 _), List.take_nil]
  cases hnb : zA b
  · simp only [SQ, SQB, zm, AOp.opds, step, Opd.get, zk, bin, zc, IntKind.signed, zi, zj, zl, zb, unary, ze, zd, za, zo, zr, zh, zf, zg, zp, Cp.isFull, isNil, zq, simprocAttr, -List.reduceReplicate, SQX, V.cells, e1, e2, e3, zC, List.length_nil, zn hlarge, zn (refName_r _ _), hna, hnb, zn (aw0 _), List.take_nil]
  by_cases ra : a = resT
  · have da := decide_eq_true ra
    simp only [SQ, SQB, zm, AOp.opds, step, Opd.get, zk, bin, zc, IntKind.signed, zi, zj, zl, zb, unary, ze, zd, za, zo, zr, zh, zf, zg, zp, Cp.isFull, isNil, zq, simprocAttr, -List.reduceReplicate, SQX, V.cells, e1, e2, e3, zC, List.length_nil, zn hlarge, zn (refName_r _ _), hna, hnb, zE, list_eq, da, zn (aw0 _), List.take_nil]
  have da := decide_eq_false ra
  by_cases rb : b = resT
  · have db := decide_eq_true rb
    simp only [SQ, SQB, zm, AOp.opds, step, Opd.get, zk, bin, zc, IntKind.signed, zi, zj, zl, zb, unary, ze, zd, za, zo, zr, zh, zf, zg, zp, Cp.isFull, isNil, zq, simprocAttr, -List.reduceReplicate, SQX, V.cells, e1, e2, e3, zC, List.length_nil, zn hlarge, zn (refName_r _ _), hna, hnb, zE, list_eq, da, db, zn (aw0 _), List.take_nil]
  have db := decide_eq_false rb
  have hren := oth_ren hna hnb ra rb
  obtain ⟨lq, hlq, hrw⟩ := callD_ex (f := fun lv => V.agg (ndC (renN (othB a b) x) lv)) (renamed_r a b _ x (Nat.le_refl _) 0 _ [] hv0 (by omega))
  have c1 := fun base => check_r (base := base) [] hv0 hsz
  have c2 := fun base => check_r (base := base) [] hlq.nd (by rw [ren_sz]; exact hsz)
  rw [ren_check hren, ren_ok hren] at c2
  simp only [SQ, SQB, zm, AOp.opds, step, Opd.get, zk, bin, zc, IntKind.signed, zi, zj, zl, zb, unary, ze, zd, za, zo, zr, zh, zf, zg, zp, Cp.isFull, isNil, zq, simprocAttr, -List.reduceReplicate, SQX, V.cells, e1, e2, e3, zC, List.length_nil, zn hlarge, zn (refName_r _ _), hna, hnb, zE, list_eq, da, db, zn (c1 _), zn hrw, zn (c2 _), zn (aw0 _), List.take_nil]
end
section
section
variable {P : Program} {W : World} {r : Go.Reach} {base : Nat} {t : TypeId} {v : Value}
theorem cells_slice {e : TypeId} (ht : P.underlying t = some (.slice e)) (h : Value.okWide P W r base t v) : v.cells.toList = [v] := by
  unfold Value.okWide Cell.okWide Cell.ok at h
  simp only [ht] at h
  cases v <;> simp_all [Value.cells]
theorem cells_int {k : IntKind} (ht : P.underlying t = some (.int k)) (h : Value.okWide P W r base t v) : v.cells.toList = [v] := by
  unfold Value.okWide Cell.okWide Cell.ok at h
  simp only [ht] at h
  cases v <;> simp_all [Value.cells]
theorem cells_string (ht : P.underlying t = some .string) (h : Value.okWide P W r base t v) : v.cells.toList = [v] := by
  unfold Value.okWide Cell.okWide Cell.ok at h
  simp only [ht] at h
  cases v <;> simp_all [Value.cells]
end
end
section
def ShpF (P : Program) (S : TypeId → List V → Prop) : List Field → List V → Prop
  | [], vs => vs = []
  | f :: fs, vs => ∃ a b, vs = a ++ b ∧ a.length = P.cellsOf f.type ∧ S f.type a ∧ ShpF P S fs b
def Shp (P : Program) : Nat → TypeId → List V → Prop
  | 0, _, _ => False
  | n + 1, t, vs => match P.underlying t with
    | some (.int k) => ∃ m : Int, k.min ≤ m ∧ m ≤ k.max ∧ vs = [.sc (.int k m)]
    | some .bool => ∃ b, vs = [.sc (.bool b)]
    | some .string => ∃ s : ByteArray, s.size ≤ Go.maxLen ∧ vs = [.sc (.string s)]
    | some (.slice e) => ∃ rows : List (List V), vs = [.slc .any (P.cellsOf e) rows] ∧ rows.length ≤ Go.maxLen ∧ ∀ r ∈ rows, Shp P n e r
    | some (.struct fs) => ShpF P (Shp P n) fs.toList vs
    | _ => False
section
variable {P : Program} {n : Nat} {t : TypeId} {vs : List V}
theorem Shp.int {k : IntKind} (ht : P.underlying t = some (.int k)) (h : Shp P n t vs) : ∃ m : Int, k.min ≤ m ∧ m ≤ k.max ∧ vs = [.sc (.int k m)] := by
  cases n with
  | zero => exact h.elim
  | succ n => simpa only [Shp, ht] using h
theorem Shp.bool (ht : P.underlying t = some .bool) (h : Shp P n t vs) : ∃ b, vs = [.sc (.bool b)] := by
  cases n with
  | zero => exact h.elim
  | succ n => simpa only [Shp, ht] using h
theorem Shp.str (ht : P.underlying t = some .string) (h : Shp P n t vs) : ∃ s : ByteArray, s.size ≤ Go.maxLen ∧ vs = [.sc (.string s)] := by
  cases n with
  | zero => exact h.elim
  | succ n => simpa only [Shp, ht] using h
theorem Shp.slc {e : TypeId} (ht : P.underlying t = some (.slice e)) (h : Shp P n t vs) : ∃ (rows : List (List V)) (k : Nat), n = k + 1 ∧ vs = [.slc .any (P.cellsOf e) rows] ∧ rows.length ≤ Go.maxLen ∧ ∀ r ∈ rows, Shp P k e r := by
  cases n with
  | zero => exact h.elim
  | succ n =>
    simp only [Shp, ht] at h
    obtain ⟨rows, h1, h2, h3⟩ := h
    exact ⟨rows, n, rfl, h1, h2, h3⟩
theorem Shp.struct {fs : Array Field} (ht : P.underlying t = some (.struct fs)) (h : Shp P n t vs) : ∃ k, n = k + 1 ∧ ShpF P (Shp P k) fs.toList vs := by
  cases n with
  | zero => exact h.elim
  | succ n => exact ⟨n, rfl, by simpa only [Shp, ht] using h⟩
end
theorem rows_map {α : Type} {f : α → List V} {Q : α → Prop} : ∀ {rows : List (List V)}, (∀ r ∈ rows, ∃ a, r = f a ∧ Q a) → ∃ l : List α, rows = l.map f ∧ ∀ a ∈ l, Q a
  | [], _ => ⟨[], rfl, by simp⟩
  | r :: rows, h => by
    obtain ⟨l, rfl, hl⟩ := rows_map (fun r hr => h r (List.mem_cons_of_mem _ hr))
    obtain ⟨a, rfl, ha⟩ := h r (List.mem_cons_self ..)
    exact ⟨a :: l, rfl, fun b hb => by
      rcases List.mem_cons.1 hb with rfl | hb
      · exact ha
      · exact hl b hb⟩
def fieldsAt (P : Program) (tys : List TypeId) : List Field → Nat → Option Nat
  | [], o => some o
  | f :: fs, o => if f.offset = o ∧ tys.contains f.type = true then fieldsAt P tys fs (o + P.cellsOf f.type) else none
def chkTy (P : Program) (tys : List TypeId) : Bool := tys.all fun t => match P.underlying t with
  | some (.int _) | some .bool | some .string => P.cellsOf t == 1
  | some (.slice e) => P.cellsOf t == 1 && tys.contains e && decide (0 < P.cellsOf e)
  | some (.struct fs) => fieldsAt P tys fs.toList 0 == some (P.cellsOf t)
  | _ => false
section
variable {H : Type} {enc : TypeId × Value → H} {P : Program} {W : World} {base : Nat} {spare : Nat → Bool} {held : Bool} {tys : List TypeId}
theorem fields_shp {n : Nat} (ih : ∀ t cs x, t ∈ tys → DataW.trod enc P W base spare held n t cs = some x → Reads W (Shp P n t) (P.cellsOf t) cs) :
    ∀ (fs : List Field) (o : Nat) (cs : List Value), (∀ f ∈ fs, ∃ y, DataW.trod enc P W base spare held n f.type ((cs.drop f.offset).take (P.cellsOf f.type)) = some y) → fieldsAt P tys fs o = some cs.length →
      ∃ vs, vs.length = cs.length - o ∧ o ≤ cs.length ∧ vs.all ground = true ∧ ShpF P (Shp P n) fs vs ∧ RepL (start W) vs (cs.drop o)
  | [], o, cs, _, ho => by
    simp only [fieldsAt, Option.some.injEq] at ho
    subst ho
    exact ⟨[], by simp, Nat.le_refl _, rfl, rfl, by simp [RepL]⟩
  | f :: fs, o, cs, hf, ho => by
    simp only [fieldsAt] at ho
    split at ho
    · rename_i hc
      obtain ⟨rfl, hm⟩ := hc
      obtain ⟨y, hy⟩ := hf f (by simp)
      obtain ⟨b, b1, b2, b3, b4, b5⟩ := fields_shp ih fs _ cs (fun g hg => hf g (by simp [hg])) ho
      obtain ⟨a, a1, a2, a3, a4⟩ := ih _ _ _ (by simpa using hm) hy
      refine ⟨a ++ b, by simp only [List.length_append]; omega, by omega, by simp [a2, b3], ⟨a, b, rfl, a1, a3, b4⟩, ?_⟩
      have := a4.append b5
      rwa [← List.drop_drop, List.take_append_drop] at this
    · simp at ho
theorem trod_shp (hc : chkTy P tys = true) : ∀ (fuel : Nat) (t : TypeId) (cs : List Value) (x : DataW H × List MemPlace), t ∈ tys → DataW.trod enc P W base spare held fuel t cs = some x → Reads W (Shp P fuel t) (P.cellsOf t) cs
  | 0, t, cs, x, _, h => by simp [DataW.trod] at h
  | n + 1, t, cs, x, ht, h => by
    have hk := List.all_eq_true.1 hc t ht
    cases hu : P.underlying t with
    | none => rw [hu] at hk; simp at hk
    | some d =>
      rw [hu] at hk
      cases d with
      | int k =>
        simp only [beq_iff_eq] at hk
        obtain ⟨m, h1, h2, h3⟩ := trod_intV hu h
        exact ⟨[.sc (.int k m)], hk.symm, rfl, by simp only [Shp, hu]; exact ⟨m, h1, h2, rfl⟩, h3⟩
      | bool =>
        simp only [beq_iff_eq] at hk
        obtain ⟨b, rfl, _⟩ := DataW.trod_bool hu h
        exact ⟨[.sc (.bool b)], hk.symm, rfl, by simp only [Shp, hu]; exact ⟨b, rfl⟩, by simp [RepL, RepV, Value.oneCell']⟩
      | string =>
        simp only [beq_iff_eq] at hk
        obtain ⟨s, h1, h2⟩ := trod_strV hu h
        exact ⟨[.sc (.string s)], hk.symm, rfl, by simp only [Shp, hu]; exact ⟨s, h1, rfl⟩, h2⟩
      | slice e =>
        simp only [Bool.and_eq_true, beq_iff_eq, decide_eq_true_eq] at hk
        obtain ⟨⟨h1, h2⟩, h3⟩ := hk
        obtain ⟨rows, r1, r2, r3⟩ := trod_slcN (Good := Shp P n e) hu h3 (fun k cs y hkn hy _ => by
          obtain rfl : n = k := by omega
          exact trod_shp hc n e cs y (by simpa using h2) hy) h
        exact ⟨[.slc .any (P.cellsOf e) rows], h1.symm, rfl, by simp only [Shp, hu]; exact ⟨rows, rfl, r2, fun r hr => (r3 r hr).2⟩, r1⟩
      | struct fs =>
        simp only [beq_iff_eq] at hk
        obtain ⟨xs, m, hm, _, hl, hx, hf⟩ := DataW.trod_struct hu h
        obtain rfl : n = m := by omega
        obtain ⟨vs, v1, _, v2, v3, v4⟩ := fields_shp (trod_shp hc n) fs.toList 0 cs (fun f hf' => by
          obtain ⟨i, hi, rfl⟩ := List.getElem_of_mem hf'
          have hi' : i < fs.size := by simpa using hi
          have := hf i fs[i] (by simp [hi'])
          rw [List.getElem?_eq_getElem (by omega)] at this
          exact ⟨_, by simpa using this⟩) (by rw [hk, hl])
        exact ⟨vs, by omega, v2, by simp only [Shp, hu]; exact v3, by simpa using v4⟩
      | _ => simp at hk
def Each {α β : Type} (R : α → β → Prop) : List α → List β → Prop
  | [], [] => True
  | a :: as, b :: bs => R a b ∧ Each R as bs
  | _, _ => False
def ArgShp (P : Program) (t : TypeId) (v : V) : Prop := ∃ n vs, Shp P n t vs ∧ match P.underlying t with
  | some (.struct _) => v = .agg vs
  | _ => vs = [v]
theorem args_shp (hc : chkTy P tys = true) {r : Go.Reach} {ob : Nat} : ∀ {ts : List TypeId} {vs : List Value} {ds : List (DataW H)} {ps : List MemPlace}, (∀ t ∈ ts, t ∈ tys) → DataW.TrodAll enc P W base spare held ts vs ds ps →
    (∀ (j : Nat) t v, ts[j]? = some t → vs[j]? = some v → Value.okWide P W r ob t v) → ∃ as : List V, RepL (start W) as vs ∧ Each (ArgShp P) ts as ∧ ds.length = ts.length
  | [], vs, ds, ps, _, h, _ => by
    obtain ⟨rfl, rfl, rfl⟩ := ChangeShapes.trodAll_nil h
    exact ⟨[], by simp [RepL], trivial, rfl⟩
  | t :: ts, vs, ds, ps, hin, h, hv => by
    obtain ⟨v, vs', d, ds', p, q, rfl, rfl, rfl, h0, h1⟩ := ChangeShapes.trodAll_cons h
    obtain ⟨as, a1, a2, a3⟩ := args_shp hc (fun t ht => hin t (by simp [ht])) h1 (fun j t' v' hj hv' => hv (j + 1) t' v' (by simpa using hj) (by simpa using hv'))
    obtain ⟨n, h0⟩ := h0
    obtain ⟨xs, x1, x2, x3, x4⟩ := trod_shp hc n t _ _ (hin t (by simp)) h0
    have k0 := hv 0 t v rfl rfl
    have hk := List.all_eq_true.1 hc t (hin t (by simp))
    cases hu : P.underlying t with
    | none => rw [hu] at hk; simp at hk
    | some e =>
      by_cases hst : ∃ fs, e = .struct fs
      · obtain ⟨fs, rfl⟩ := hst
        unfold Value.okWide at k0
        rw [hu] at k0
        obtain ⟨cs, rfl, _, _⟩ := k0
        refine ⟨.agg xs :: as, ?_, ⟨⟨n, xs, x3, by rw [hu]⟩, a2⟩, by simp [a3]⟩
        simp only [RepL, RepV]
        exact ⟨_, _, rfl, ⟨cs, rfl, x4⟩, a1⟩
      · rw [hu] at hk
        have h1c : P.cellsOf t = 1 := by
          cases e <;> simp_all
        obtain ⟨y, rfl⟩ : ∃ y, xs = [y] := by
          match xs, x1 with
          | [y], _ => exact ⟨y, rfl⟩
          | [], h => simp at h; omega
          | _ :: _ :: _, h => simp at h; omega
        have hcells : v.cells.toList = [v] := by
          unfold Value.okWide Cell.okWide Cell.ok at k0
          cases e <;> simp only [hu] at k0 <;> cases v <;> simp_all [Value.cells]
        rw [hcells] at x4
        refine ⟨y :: as, ?_, ⟨⟨n, [y], x3, ?_⟩, a2⟩, by simp [a3]⟩
        · have := RepL.append x4 a1
          simpa using this
        · rw [hu]
          cases e <;> first | rfl | exact absurd ⟨_, rfl⟩ hst
end
end
end Go.Am
