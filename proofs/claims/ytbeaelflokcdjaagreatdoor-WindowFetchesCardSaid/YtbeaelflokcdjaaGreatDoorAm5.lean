/- The abstract machine and what is proved in it, part 5. -/
import Derived.Test.YtbeaelflokcdjaaGreatDoorAm4
import Derived.MapKept
import Derived.LoopN
import Derived.Orders
set_option linter.unusedVariables false
set_option linter.unusedSimpArgs false
namespace Go.Am
section
open Go.RowKit (Below)
section
variable {P : Program} {gl : Nat → Option (List V)} {G : Tie} {en : Env} {h h' : Heap} {a : Act} {w : World} {o : Oper} {base : Nat} {v : V}
theorem keyIs_inv {kt : TypeId} {kd : LK} {k : V} {r key : Value} (hk : keyKind P kt = some kd) (hr : RepV G k r) (hi : keyIs kd k = some key) : ∃ d, P.underlying kt = some d ∧ MapKept.IsKey d key ∧ r = key := by
  unfold keyKind at hk
  split at hk
  · rename_i hd
    injection hk with hk
    subst hk
    unfold keyIs at hi
    split at hi
    all_goals try (exfalso; simp_all; done)
    rename_i a e1 e2
    injection hi with hi
    exact ⟨_, hd, by rw [← hi]; simp [MapKept.IsKey], by rw [hr.sc_inv, hi]⟩
  · rename_i hd
    injection hk with hk
    subst hk
    unfold keyIs at hi
    split at hi
    all_goals try (exfalso; simp_all; done)
    rename_i a e1 e2
    injection hi with hi
    exact ⟨_, hd, by rw [← hi]; simp [MapKept.IsKey], by rw [hr.sc_inv, hi]⟩
  · rename_i hd
    injection hk with hk
    subst hk
    unfold keyIs at hi
    split at hi
    all_goals try (exfalso; simp_all; done)
    rename_i a e1 e2
    injection hi with hi
    exact ⟨_, hd, by rw [← hi]; simp [MapKept.IsKey], by rw [hr.sc_inv, hi]⟩
  · simp at hk
theorem keyEq_same {d : TypeDesc} {key y : Value} {t : Bool} (hk : MapKept.IsKey d key) (he : keyEq key y = some t) : Instr.sameNow d key y = some t := by
  unfold keyEq at he
  split at he
  · cases d <;> simp [MapKept.IsKey] at hk
    simpa [Instr.sameNow] using he
  · cases d <;> simp [MapKept.IsKey] at hk
    simpa [Instr.sameNow] using he
  · cases d <;> simp [MapKept.IsKey] at hk
    simpa [Instr.sameNow] using he
  · simp at he
theorem keyEq_eq {key y : Value} (he : keyEq key y = some true) : key = y := by
  unfold keyEq at he
  split at he
  · injection he with he
    rw [(MapKept.bytes_beq _ _).1 he]
  · split at he
    · rename_i hk
      injection he with he
      simp at he
      rw [hk, he]
    · simp at he
  · injection he with he
    simp at he
    rw [he]
  · simp at he
theorem findM_run {d : TypeDesc} {key : Value} (hk : MapKept.IsKey d key) : ∀ {es : List (Value × V)} {l : List MapEntry} {i : Nat} {r : Option (Nat × V)}, RepM G es l → findM key es i = some r →
    (r = none ∧ Instr.findNow d key l i = some none) ∨ ∃ j v x, r = some (i + j, v) ∧ l[j]? = some x ∧ x.key = key ∧ RepV G v x.val ∧ Instr.findNow d key l i = some (some (i + j, x.val))
  | [], l, i, r, hR, hf => by
    simp only [RepM] at hR
    subst hR
    simp only [findM, Option.some.injEq] at hf
    exact .inl ⟨hf.symm, rfl⟩
  | e :: es, l, i, r, hR, hf => by
    simp only [RepM] at hR
    obtain ⟨x, rest, rfl, h1, h2, h3⟩ := hR
    unfold findM at hf
    split at hf
    · rename_i he
      injection hf with hf
      have hs := keyEq_same hk he
      rw [← h1] at hs
      exact .inr ⟨0, e.2, x, hf.symm, rfl, by rw [h1, keyEq_eq he], h2, by simp [Instr.findNow, hs]⟩
    · rename_i he
      have hs := keyEq_same hk he
      rw [← h1] at hs
      rcases findM_run hk h3 hf with ⟨q1, q2⟩ | ⟨j, v, y, q1, q2, q3, q4, q5⟩
      · exact .inl ⟨q1, by simp [Instr.findNow, hs, q2]⟩
      · exact .inr ⟨j + 1, v, y, by rw [q1]; congr 2; omega, by simpa using q2, q3, q4, by simp [Instr.findNow, hs, q5]; omega⟩
    · simp at hf
theorem zeroV_run {t : TypeId} {z : V} (hz : zeroV P t = some z) (w : World) : ∃ r, (zeroValue t).run P w = .ok r w ∧ RepV G z r := by
  simp only [zeroV, Option.bind_eq_some_iff] at hz
  obtain ⟨r, ⟨i, hi, hz⟩, hv⟩ := hz
  exact ⟨r, by simp [zeroValue, typeInfo, hi, hz], valOf_rep hv⟩
theorem ok_makeMap {t : TypeId} (hop : o.op = .makeMap t none) (R : Rel G h w) : OpOk P o a G (h ++ [.mmap []]) w (.mp h.length) := by
  refine OpOk.value (s := Instr.makeMap t none) (r := .map (some w.heap.size)) (w' := w.alloc (.map #[] 0)) (by simp only [execOp, hop, Option.map_none]) (by simp [Instr.makeMap]) (Ext.newBox G w.heap.size) R.newMap ?_ (bel_alloc R _)
  simp [RepV, Tie.newBox, R.n]
theorem ok_lookup {t kt et : TypeId} {m k : Operand} {ok : Bool} {m' k' : Opd} {kd : LK} {z : V} (hop : o.op = .lookup t m k ok) (hgl : GlobOk G gl) (he : RepEnv G en a.tmps) (R : Rel G h w) (ht : P.underlying t = some (.map kt et)) (hkd : keyKind P kt = some kd) (hz : zeroV P et = some z)
    (hm : opd gl m = some m') (hk : opd gl k = some k') (hs : step base en h (.lookup kd z ok m' k') = some (v, h')) : OpOk P o a G h' w v := by
  simp only [step, Option.map_eq_some_iff, Prod.mk.injEq] at hs
  obtain ⟨⟨u, f⟩, h1, rfl, rfl⟩ := hs
  unfold lookupV at h1
  simp only [Option.bind_eq_some_iff] at h1
  obtain ⟨key, hkey, h1⟩ := h1
  obtain ⟨d, hd, hik, hrk⟩ := keyIs_inv hkd (opd_rep hgl he hk) hkey
  have hrm := opd_rep hgl he hm
  obtain ⟨rz, hzr, hzv⟩ := zeroV_run (G := G) hz w
  have fin : ∀ (rv : Value), RepV G u rv → (Instr.lookup t (a.eval m) (a.eval k) ok).run P w = .ok (if ok then .tuple #[rv, .bool f] else rv) w → OpOk P o a G h w (if ok then V.tup [u, .bool f] else u) := by
    intro rv hv hrun
    refine OpOk.quiet R (by simp only [execOp, hop]) hrun ?_
    cases ok
    · exact hv
    · simp only [if_true, RepV]
      exact ⟨_, rfl, by simp only [RepL]; exact ⟨_, _, rfl, hv, _, _, rfl, RepV.bool _ _, rfl⟩⟩
  split at h1
  · rename_i em
    rw [em] at hrm
    injection h1 with h1
    simp only [Prod.mk.injEq] at h1
    obtain ⟨rfl, rfl⟩ := h1
    have hrm := hrm.sc_inv
    have hc : (Instr.checkKey true 10000 kt key).run P w = .ok () w := MapKept.run_checkKey hd hik true 9999
    have hf : (Instr.findKey kt key []).run P w = .ok none w := MapKept.run_findKey hd rfl
    refine fin rz hzv ?_
    rw [hrm, hrk]
    cases ok <;> simp [Instr.lookup, run_underlying ht, hc, hf, hzr, Result.andThen]
  · rename_i b em
    rw [em] at hrm
    split at h1
    · rename_i es eb
      simp only [Option.map_eq_some_iff] at h1
      obtain ⟨r, hr, h1⟩ := h1
      obtain ⟨l, clock, hw, hR⟩ := R.mp b es eb
      simp only [RepV] at hrm
      obtain ⟨_, hrm⟩ := hrm
      have hc : ∀ e, (Instr.checkKey e 10000 kt key).run P w = .ok () w := fun e => MapKept.run_checkKey hd hik e 9999
      rcases findM_run hik hR hr with ⟨rfl, q2⟩ | ⟨j, v2, x, rfl, q2, q3, q4, q5⟩
      · simp only [Prod.mk.injEq] at h1
        obtain ⟨rfl, rfl⟩ := h1
        have hf := MapKept.run_findKey (P := P) (w := w) hd q2
        refine fin rz hzv ?_
        rw [hrm, hrk]
        cases ok <;> simp [Instr.lookup, run_underlying ht, MapKept.run_getObj_map hw, hc, hf, hzr, Result.andThen]
      · simp only [Prod.mk.injEq] at h1
        obtain ⟨rfl, rfl⟩ := h1
        have hf := MapKept.run_findKey (P := P) (w := w) hd q5
        refine fin x.val q4 ?_
        rw [hrm, hrk]
        cases ok <;> simp [Instr.lookup, run_underlying ht, MapKept.run_getObj_map hw, hc, hf, Result.andThen]
    · simp at h1
  · simp at h1
theorem sameBits_key {d : TypeDesc} {key : Value} (hk : MapKept.IsKey d key) : Instr.sameBits 10000 key key = true := by
  cases d <;> cases key <;> simp_all [MapKept.IsKey, Instr.sameBits]
  exact (MapKept.bytes_beq _ _).2 rfl
theorem ok_mapUpdate {t kt et : TypeId} {m k x : Operand} {m' k' x' : Opd} {kd : LK} (hop : o.op = .mapUpdate t m k x ∨ o.op = .insert t m k x) (hgl : GlobOk G gl) (he : RepEnv G en a.tmps) (R : Rel G h w) (ht : P.underlying t = some (.map kt et)) (hkd : keyKind P kt = some kd)
    (hm : opd gl m = some m') (hk : opd gl k = some k') (hx : opd gl x = some x') (hs : step base en h (.mapUpdate kd m' k' x') = some (v, h')) : OpOk P o a G h' w v := by
  simp only [step, Option.map_eq_some_iff, Prod.mk.injEq] at hs
  obtain ⟨h2, h1, rfl, rfl⟩ := hs
  unfold updateV at h1
  simp only [Option.bind_eq_some_iff] at h1
  obtain ⟨key, hkey, h1⟩ := h1
  obtain ⟨d, hd, hik, hrk⟩ := keyIs_inv hkd (opd_rep hgl he hk) hkey
  have hrm := opd_rep hgl he hm
  have hrx := opd_rep hgl he hx
  split at h1
  · rename_i b em
    rw [em] at hrm
    split at h1
    · rename_i es eb
      split at h1
      · rename_i hcond
        simp only [Option.map_eq_some_iff] at h1
        obtain ⟨r, hr, h1⟩ := h1
        obtain ⟨l, clock, hw, hR⟩ := R.mp b es eb
        simp only [RepV] at hrm
        obtain ⟨_, hrm⟩ := hrm
        have hreal : G.real h b = some (G.bx b) := by unfold Tie.real; rw [eb]
        have hc : (Instr.checkKey false 10000 kt key).run P w = .ok () w := MapKept.run_checkKey hd hik false 9999
        have hlt : G.bx b < w.heap.size := R.lt hreal
        have fin : ∀ (l' : Array MapEntry) (clock' : Nat) (es' : List (Value × V)), (Instr.mapUpdate t (a.eval m) (a.eval k) (a.eval x)).run P w = .ok () { w with heap := w.heap.setIfInBounds (G.bx b) (.map l' clock') } →
            RepM G es' l'.toList → OpOk P o a G (h.set b (.mmap es')) w .undef := by
          intro l' clock' es' hrun hR'
          refine ⟨undef, _, G, .inr ⟨?_, rfl⟩, Ext.refl G, R.setMap (w' := { w with heap := w.heap.setIfInBounds (G.bx b) (.map l' clock') }) eb (by simp) ?_ (clock := clock') (by simp [hlt]) hR', by simp [RepV], ⟨⟨rfl, rfl, rfl, by simp, ?_⟩, ?_⟩⟩
          · rcases hop with hop | hop <;> simp only [execOp, hop, Sem.run_bind, hrun, Result.andThen_ok] <;> rfl
          · intro c hc _
            simp [Ne.symm hc]
          · intro c hc
            have := (R.low b _ hreal).1
            simp [show ¬ G.bx b = c by omega]
          · intro c hc
            have : ¬ G.bx b = c := fun e => by rw [← e, R.kp_of hreal] at hc; exact absurd hc (by simp)
            simp [this]
        rcases findM_run hik hR hr with ⟨rfl, q2⟩ | ⟨j, v2, y, rfl, q2, q3, q4, q5⟩
        · simp only at h1
          subst h1
          have hf := MapKept.run_findKey (P := P) (w := w) hd q2
          refine fin (l.push { key, val := a.eval x, born := clock }) (clock + 1) _ ?_ ?_
          · rw [hrm, hrk]
            simp [Instr.mapUpdate, run_underlying ht, MapKept.run_getObj_map hw, hc, hf, MapKept.run_setObj_map _ hw, Result.andThen]
          · rw [Array.toList_push]
            exact RepM.snoc rfl hrx hR
        · simp only [Nat.zero_add] at h1
          subst h1
          have hf := MapKept.run_findKey (P := P) (w := w) hd q5
          have hkeep : (Instr.keyThatStays key key).run P w = .ok key w := by
            simp [Instr.keyThatStays, sameBits_key hik]
          have hy : l[j]? = some y := by rw [← Array.getElem?_toList]; exact q2
          refine fin (l.modify j fun e => { e with key, val := a.eval x }) clock _ ?_ ?_
          · rw [hrm, hrk]
            simp only [Nat.zero_add] at hf
            simp [Instr.mapUpdate, run_underlying ht, MapKept.run_getObj_map hw, hc, hf, hy, q3, hkeep, MapKept.run_setObj_map _ hw, Result.andThen]
          · have hm : (l.modify j fun e => { e with key, val := a.eval x }).toList = l.toList.set j { y with key, val := a.eval x } := by
              apply List.ext_getElem?
              intro n
              simp only [Array.getElem?_toList, Array.getElem?_modify, List.getElem?_set]
              by_cases hn : j = n
              · subst hn
                obtain ⟨hl, hl2⟩ := Array.getElem?_eq_some_iff.1 hy
                simp [hl, hl2]
              · simp [hn]
            rw [hm]
            exact RepM.set rfl hrx hR
      · simp at h1
    · simp at h1
  · simp at h1
theorem lenM_run {t kt et ty : TypeId} {x : V} {r : Value} {n : Nat} (R : Rel G h w) (ht : P.underlying t = some (.map kt et)) (hx : RepV G x r) (hv : lenMV h x = some n) : (Builtin.len_ #[t] ty #[r]).run P w = .ok (.int .i64 n) w := by
  unfold lenMV at hv
  split at hv
  · injection hv with hv
    subst hv
    have := hx.sc_inv
    subst this
    simp [Builtin.len_, run_underlying ht, goInt]
  · rename_i b
    split at hv
    · rename_i es eb
      injection hv with hv
      subst hv
      obtain ⟨l, clock, hw, hR⟩ := R.mp b es eb
      simp only [RepV] at hx
      obtain ⟨_, rfl⟩ := hx
      have := hR.length
      simp only [Array.length_toList] at this
      simp [Builtin.len_, run_underlying ht, MapKept.run_getObj_map hw, goInt, this, Result.andThen]
    · simp at hv
  · simp at hv
end
end
section
open Go.RowKit (Below)
section
variable {P : Program} {gl : Nat → Option (List V)} {G : Tie} {en : Env} {h h' : Heap} {a : Act} {w : World} {o : Oper} {base : Nat} {v : V}
theorem ok_sliceStr {t : TypeId} {x : Operand} {lo hi : Option Operand} {x' : Opd} {lo' hi' : Option Opd} (hop : o.op = .slice t x lo hi none) (hgl : GlobOk G gl) (he : RepEnv G en a.tmps) (R : Rel G h w) (ht : P.underlying t = some .string)
    (hx : opd gl x = some x') (hl : opdO gl lo = some lo') (hh : opdO gl hi = some hi') (hs : step base en h (.sliceStr x' lo' hi') = some (v, h')) : OpOk P o a G h' w v := by
  have hrx := opd_rep hgl he hx
  simp only [step] at hs
  split at hs
  · rename_i s es
    simp only [Option.bind_eq_some_iff] at hs
    obtain ⟨l, h1, e, h2, hs⟩ := hs
    split at hs
    · rename_i hc
      injection hs with hs
      simp only [Prod.mk.injEq] at hs
      obtain ⟨rfl, rfl⟩ := hs
      rw [es] at hrx
      have h3 := sliceStr_run (P := P) (w := w) ht (boundO_OB hgl he hl h1) (boundO_OB hgl he hh h2) hc.1 hc.2
      rw [← hrx.sc_inv] at h3
      exact OpOk.quiet R (by simp only [execOp, hop, Option.map_none]) h3 (RepV.str _ _)
    · simp at hs
  · simp at hs
theorem ok_slice {t e : TypeId} {sz : Nat} {x : Operand} {lo hi mx : Option Operand} {x' : Opd} {lo' hi' mx' : Option Opd} (hop : o.op = .slice t x lo hi mx) (hgl : GlobOk G gl) (he : RepEnv G en a.tmps) (R : Rel G h w)
    (ht : P.underlying t = some (.slice e)) (hg : growElem P e = some sz)
    (hx : opd gl x = some x') (hl : opdO gl lo = some lo') (hh : opdO gl hi = some hi') (hm : opdO gl mx = some mx') (hs : step base en h (.slice sz x' lo' hi' mx') = some (v, h')) : OpOk P o a G h' w v := by
  have hrx := opd_rep hgl he hx
  obtain ⟨i, z, hi1, hz1, rfl, _⟩ := growElem_inv hg
  have hsz : sizeO P e = some i.size := by simp [sizeO, hi1]
  simp only [step, Option.bind_eq_some_iff] at hs
  obtain ⟨l, h1, hs⟩ := hs
  have hlo := boundO_OB hgl he hl h1
  have some_inv : ∀ {q : Option Operand} {y : Opd}, opdO gl q = some (some y) → ∃ z, q = some z ∧ opd gl z = some y := by
    intro q y hq
    cases q with
    | none => simp [opdO] at hq
    | some z =>
      simp only [opdO, Option.map_eq_some_iff, Option.some.injEq] at hq
      obtain ⟨u, hu, rfl⟩ := hq
      exact ⟨z, rfl, hu⟩
  have none_inv : ∀ {q : Option Operand}, opdO gl q = some none → q = none := by
    intro q hq
    cases q with
    | none => rfl
    | some z => simp [opdO] at hq
  have fin : ∀ {hin mxn : Option Nat}, (∀ d, OB d (hi.map a.eval) (hin.getD d)) → (∀ d, OB d (mx.map a.eval) (mxn.getD d)) → (hi.map a.eval = none → mx.map a.eval = none) → (mxn = none ↔ mx.map a.eval = none) → (hin = none → mxn = none) →
      zg h i.size (x'.get en) l hin mxn = some (v, h') → OpOk P o a G h' w v := by
    intro hin mxn a1 a2 a3 a4 a5 hv
    obtain ⟨r, G', h3, h4, h5, h6⟩ := sliceV_run R ht hsz hrx hlo a1 a2 a3 a4 a5 hv
    exact OpOk.value (by simp only [execOp, hop]) h3 h4 h5 h6 (Bel.refl _ _)
  split at hs
  · have e1 := none_inv hh
    have e2 := none_inv hm
    subst e1; subst e2
    exact fin (fun d => .inl ⟨rfl, rfl⟩) (fun d => .inl ⟨rfl, rfl⟩) (fun _ => rfl) (by simp) (fun _ => rfl) hs
  · rename_i eo
    have e2 := none_inv hm
    obtain ⟨z1, rfl, hz⟩ := some_inv hh
    subst e2
    simp only [Option.bind_eq_some_iff] at hs
    obtain ⟨en1, h2, hs⟩ := hs
    obtain ⟨k, i1, b1, b2, b3⟩ := asNat_run (opd_rep hgl he hz) h2
    exact fin (fun d => .inr ⟨k, i1, by simp [b1], b2, by simpa using b3⟩) (fun d => .inl ⟨rfl, rfl⟩) (fun _ => rfl) (by simp) (fun _ => rfl) hs
  · rename_i eo mo
    obtain ⟨z1, rfl, hz⟩ := some_inv hh
    obtain ⟨z2, rfl, hz2⟩ := some_inv hm
    simp only [Option.bind_eq_some_iff] at hs
    obtain ⟨en1, h2, m, h3, hs⟩ := hs
    obtain ⟨k, i1, b1, b2, b3⟩ := asNat_run (opd_rep hgl he hz) h2
    obtain ⟨k', i2, c1, c2, c3⟩ := asNat_run (opd_rep hgl he hz2) h3
    exact fin (fun d => .inr ⟨k, i1, by simp [b1], b2, by simpa using b3⟩) (fun d => .inr ⟨k', i2, by simp [c1], c2, by simpa using c3⟩) (by simp) (by simp) (by simp) hs
  · simp at hs
theorem ok_sliceArr {t e : TypeId} {n sz : Nat} {x : Operand} {lo hi : Option Operand} {x' : Opd} {lo' hi' : Option Opd} (hop : o.op = .slice t x lo hi none) (hgl : GlobOk G gl) (he : RepEnv G en a.tmps) (R : Rel G h w)
    (ht : P.underlying t = some (.array n e)) (hg : growElem P e = some sz)
    (hx : opd gl x = some x') (hl : opdO gl lo = some lo') (hh : opdO gl hi = some hi') (hs : step base en h (.sliceArr n sz x' lo' hi') = some (v, h')) : OpOk P o a G h' w v := by
  have hrx := opd_rep hgl he hx
  obtain ⟨i, z, hi1, hz1, rfl, _⟩ := growElem_inv hg
  have hsz : sizeO P e = some i.size := by simp [sizeO, hi1]
  simp only [step] at hs
  split at hs
  · rename_i cs l e' es h1 h2
    split at hs
    · rename_i hc
      obtain ⟨rfl, rfl, hnc, hpos, hn0⟩ := hc
      injection hs with hs
      simp only [Prod.mk.injEq] at hs
      obtain ⟨rfl, rfl⟩ := hs
      rw [es] at hrx
      simp only [RepV, Nat.add_zero] at hrx
      obtain ⟨b, oo, hr, hgr, hF⟩ := hrx
      have hb := bounds_run (P := P) (w := w) (b := false) (len := e') (cap := e') (boundO_OB hgl he hl h1) (boundO_OB hgl he hh h2) (.inl ⟨rfl, rfl⟩ : OB e' none e') (by simp) (Nat.zero_le _) (Nat.le_refl _) (Nat.le_refl _)
      refine OpOk.quiet (s := Instr.sliceAt t (a.eval x) (lo.map a.eval) (hi.map a.eval) none) (r := .slice (some ⟨b, oo, none⟩) e' e') R (by simp only [execOp, hop, Option.map_none]) ?_ ?_
      · rw [hr]
        simp [Instr.sliceAt, run_underlying ht w, Instr.sureAddr, hb, sizeO_run hsz w, Addr.add]
      · have hlen : ((List.range e').map fun k => (cs.drop (k * i.size)).take i.size).length = e' := by simp
        simp only [RepV]
        refine ⟨_, _, by rw [hlen], by rw [hlen]; exact Nat.le_refl _, fun _ => by rw [hlen], ?_, b, oo, fun _ => rfl, by simp, RepRows.of_get fun k c hk => ?_⟩
        · rw [List.all_eq_true]
          intro r hr
          simp only [List.mem_map] at hr
          obtain ⟨k, _, rfl⟩ := hr
          rw [List.all_eq_true] at hgr ⊢
          exact fun y hy => hgr y (List.mem_of_mem_drop (List.mem_of_mem_take hy))
        · simp only [List.getElem?_map, Option.map_eq_some_iff] at hk
          obtain ⟨k', hk', rfl⟩ := hk
          have hkl : k < e' := by
            rcases Nat.lt_or_ge k e' with hl | hl
            · exact hl
            · rw [List.getElem?_eq_none (by simpa using hl)] at hk'
              simp at hk'
          rw [List.getElem?_range hkl] at hk'
          injection hk' with hk'
          subst hk'
          have hroom : k * i.size + i.size ≤ cs.length := row_room (rs := Array.replicate cs.length undef) (by simpa using hnc.symm) (Nat.le_refl _) hkl |> fun h => by simpa using h
          refine ⟨by simp; omega, RepF.of_get fun j c hj => ?_⟩
          rw [List.getElem?_take] at hj
          split at hj
          · rw [List.getElem?_drop] at hj
            have := hF.get hj
            rwa [← Nat.add_assoc] at this
          · simp at hj
    · simp at hs
  · rename_i b ep l e' es h1 h2
    split at hs
    · rename_i z rows hra
      split at hs
      · rename_i hc
        obtain ⟨rfl, rfl, hle, hen⟩ := hc
        injection hs with hs
        simp only [Prod.mk.injEq] at hs
        obtain ⟨rfl, rfl⟩ := hs
        rw [es] at hrx
        obtain ⟨ty, eq, hpos, L, rs, hL, hLe, hLs, hcp, hw, hss, hB⟩ := R.rowAt hra
        simp only [RepV] at hrx
        obtain ⟨hb', a', hr, hLx⟩ := hrx
        obtain ⟨k1, k2⟩ := hLx L hL
        have ha := k2 hLe.symm
        simp only [Nat.zero_mul, Nat.zero_add] at ha
        subst ha
        have hb := bounds_run (P := P) (w := w) (b := false) (len := rows.length) (cap := rows.length) (boundO_OB hgl he hl h1) (boundO_OB hgl he hh h2) (.inl ⟨rfl, rfl⟩ : OB rows.length none rows.length) (by simp) hle hen (Nat.le_refl _)
        refine OpOk.quiet (s := Instr.sliceAt t (a.eval x) (lo.map a.eval) (hi.map a.eval) none) (r := .slice (some (if rows.length = l then ⟨L.blk, 0, none⟩ else ⟨L.blk, l * i.size, none⟩)) (e' - l) (rows.length - l)) R (by simp only [execOp, hop, Option.map_none]) ?_ ?_
        · rw [hr]
          by_cases hq : rows.length = l
          · rw [if_pos hq]
            simp [Instr.sliceAt, run_underlying ht w, Instr.sureAddr, hb, sizeO_run hsz w, add_none]
            intro hq'
            exact absurd hq hq'
          · rw [if_neg hq]
            simp [Instr.sliceAt, run_underlying ht w, Instr.sureAddr, hb, sizeO_run hsz w, add_none]
            intro hq'
            exact absurd (by omega) hq
        · simp only [RepV]
          refine ⟨hb', _, _, rfl, fun L' hL' => ?_⟩
          rw [hL] at hL'
          injection hL' with hL'
          subst hL'
          exact ⟨k1, fun _ => ⟨by omega, by omega, fun h0 => by rw [if_neg (by omega), hLs]⟩⟩
      · simp at hs
    · simp at hs
  · simp at hs
theorem ok_minmax {mx : Bool} {ts : Array TypeId} {xs : Array Operand} {ys : List Opd} (hop : o.op = .call { callee := .builtin (if mx then .max else .min), args := xs, argTypes := ts }) (hgl : GlobOk G gl) (he : RepEnv G en a.tmps) (R : Rel G h w)
    (hx : opds gl xs.toList = some ys) (hs : step base en h (.mnmx mx ys) = some (v, h')) : OpOk P o a G h' w v := by
  have hr := opds_rep hgl he hx
  simp only [step] at hs
  split at hs
  · rename_i y r ey
    obtain ⟨h1, h2⟩ := some_pair hs
    simp only at h1 h2
    subst h2
    rw [ey] at hr
    simp only [RepL] at hr
    obtain ⟨q, rest, eq, hq, hrest⟩ := hr
    obtain ⟨z, h3, h4⟩ := minmax_run (P := P) (w := w) mx ts 0 hq hrest h1
    refine ⟨z, w, G, .inl ?_, Ext.refl G, R, h4, Bel.refl _ _⟩
    have hargs : (xs.map a.eval).toList = q :: rest := by simpa using eq
    cases mx
    · simp only [Bool.false_eq_true, if_false] at hop h3
      simp only [execOp, hop, resolve, Sem.run_bind, Sem.run_pure, Result.andThen_ok, invoke, builtin, Builtin.min_, hargs, h3]
    · simp only [if_true] at hop h3
      simp only [execOp, hop, resolve, Sem.run_bind, Sem.run_pure, Result.andThen_ok, invoke, builtin, Builtin.max_, hargs, h3]
  · simp at hs
theorem step_run (hgl : GlobOk G gl) (he : RepEnv G en a.tmps) (R : Rel G h w) {ao : AOp} (hc : compOp P gl o.op = some ao) (hs : step base en h ao = some (v, h')) : OpOk P o a G h' w v := by
  cases hop : o.op <;> rw [hop] at hc <;> simp only [compOp, reduceCtorEq] at hc
  case move x =>
    simp only [Option.map_eq_some_iff] at hc
    obtain ⟨y, hy, rfl⟩ := hc
    simp only [step, Option.some.injEq, Prod.mk.injEq] at hs
    obtain ⟨rfl, rfl⟩ := hs
    exact ok_move (.inl hop) hgl he R hy
  case assign x =>
    simp only [Option.map_eq_some_iff] at hc
    obtain ⟨y, hy, rfl⟩ := hc
    simp only [step, Option.some.injEq, Prod.mk.injEq] at hs
    obtain ⟨rfl, rfl⟩ := hs
    exact ok_move (.inr hop) hgl he R hy
  case pick c x y =>
    simp only [Option.bind_eq_some_iff, Option.map_eq_some_iff] at hc
    obtain ⟨c', h1, x', h2, y', h3, rfl⟩ := hc
    simp only [step] at hs
    split at hs
    · rename_i t ht
      simp only [Option.some.injEq, Prod.mk.injEq] at hs
      obtain ⟨rfl, rfl⟩ := hs
      exact ok_pick hop hgl he R h1 h2 h3 ht
    · simp at hs
  case alloc t =>
    simp only [Option.map_eq_some_iff] at hc
    obtain ⟨zs, hz, hc⟩ := hc
    split at hc
    · subst hc
      exact ok_allocA hop R hz hs
    · subst hc
      simp only [step, Option.some.injEq, Prod.mk.injEq] at hs
      obtain ⟨rfl, rfl⟩ := hs
      exact ok_alloc hop R hz
  case box t x =>
    simp only [Option.map_eq_some_iff] at hc
    obtain ⟨y, hy, hc⟩ := hc
    split at hc
    · subst hc
      exact ok_boxF hop hgl he R hy hs
    split at hc
    · subst hc
      exact ok_boxA hop hgl he R hy hs
    · subst hc
      simp only [step] at hs
      split at hs
      · rename_i hone
        simp only [Option.some.injEq, Prod.mk.injEq] at hs
        obtain ⟨rfl, rfl⟩ := hs
        exact ok_box hop hgl he R hy hone
      · simp at hs
  case build t ps =>
    simp only [Option.bind_eq_some_iff] at hc
    obtain ⟨d, hd, hc⟩ := hc
    split at hc
    · rename_i fs
      simp only [Option.bind_eq_some_iff, Option.map_eq_some_iff] at hc
      obtain ⟨zs, hz, pl, hp, qs, hq, rfl⟩ := hc
      simp only [step, Option.map_eq_some_iff, Prod.mk.injEq] at hs
      obtain ⟨cs, hf, rfl, rfl⟩ := hs
      exact ok_build hop hgl he R hd hz (.inl ⟨fs, pl, rfl, hp, hq⟩) hf
    · rename_i n e
      simp only [Option.bind_eq_some_iff, Option.map_eq_some_iff] at hc
      obtain ⟨zs, hz, s, hs', qs, hq, rfl⟩ := hc
      simp only [step, Option.map_eq_some_iff, Prod.mk.injEq] at hs
      obtain ⟨cs, hf, rfl, rfl⟩ := hs
      exact ok_build hop hgl he R hd hz (.inr ⟨n, e, s, rfl, hs', hq⟩) hf
    · simp at hc
  case makeMap t r =>
    cases r with
    | none =>
      simp only [Option.some.injEq] at hc
      subst hc
      simp only [step, Option.some.injEq, Prod.mk.injEq] at hs
      obtain ⟨rfl, rfl⟩ := hs
      exact ok_makeMap hop R
    | some r => simp at hc
  case lookup t m k ok =>
    simp only [Option.bind_eq_some_iff] at hc
    obtain ⟨d, hd, hc⟩ := hc
    split at hc
    · simp only [Option.bind_eq_some_iff, Option.map_eq_some_iff] at hc
      obtain ⟨kd, hkd, z, hz, m', hm, k', hk, rfl⟩ := hc
      exact ok_lookup hop hgl he R hd hkd hz hm hk hs
    · simp at hc
  case mapUpdate t m k x =>
    simp only [Option.bind_eq_some_iff] at hc
    obtain ⟨d, hd, hc⟩ := hc
    split at hc
    · simp only [Option.bind_eq_some_iff, Option.map_eq_some_iff] at hc
      obtain ⟨kd, hkd, m', hm, k', hk, x', hx, rfl⟩ := hc
      exact ok_mapUpdate (.inl hop) hgl he R hd hkd hm hk hx hs
    · simp at hc
  case insert t m k x =>
    simp only [Option.bind_eq_some_iff] at hc
    obtain ⟨d, hd, hc⟩ := hc
    split at hc
    · simp only [Option.bind_eq_some_iff, Option.map_eq_some_iff] at hc
      obtain ⟨kd, hkd, m', hm, k', hk, x', hx, rfl⟩ := hc
      exact ok_mapUpdate (.inr hop) hgl he R hd hkd hm hk hx hs
    · simp at hc
  case buildSlice t n ps =>
    simp only [Option.bind_eq_some_iff] at hc
    obtain ⟨d, hd, hc⟩ := hc
    split at hc
    · rename_i e
      simp only [Option.bind_eq_some_iff] at hc
      obtain ⟨sz, hg, zs, hz, hc⟩ := hc
      split at hc
      · rename_i hn
        simp only [Option.map_eq_some_iff] at hc
        obtain ⟨qs, hq, rfl⟩ := hc
        exact ok_bslice hop hgl he R hd hg hz hn hq hs
      · simp at hc
    · simp at hc
  case load t x =>
    simp only [Option.bind_eq_some_iff, Option.map_eq_some_iff] at hc
    obtain ⟨n, hn, y, hy, rfl⟩ := hc
    simp only [step] at hs
    obtain ⟨h1, h2⟩ := some_pair hs
    simp only at h1 h2
    subst h2
    exact ok_load hop hgl he R hn hy h1
  case store t x y =>
    simp only [Option.bind_eq_some_iff, Option.map_eq_some_iff] at hc
    obtain ⟨n, hn, x', hx, y', hy, rfl⟩ := hc
    simp only [step, Option.map_eq_some_iff, Prod.mk.injEq] at hs
    obtain ⟨h2, h1, rfl, rfl⟩ := hs
    exact ok_store hop hgl he R hn hx hy h1
  case nilCheck x =>
    simp only [Option.map_eq_some_iff] at hc
    obtain ⟨y, hy, rfl⟩ := hc
    obtain ⟨h1, h2, rfl⟩ := nilCheck_run (P := P) (w := w) (ρ := a.eval) hop (opd_rep hgl he hy) hs
    exact ⟨_, w, G, .inl h1, Ext.refl G, R, h2, Bel.refl _ _⟩
  case binOp op t x y ty =>
    split at hc
    · rename_i fs ht
      simp only [Option.bind_eq_some_iff] at hc
      obtain ⟨ls, hl, x', hx, y', hy, hc⟩ := hc
      have fin : ∀ neg, op = (if neg then .neq else .eql) → ao = .eqAgg neg ls x' y' → OpOk P o a G h' w v := by
        rintro neg hopn rfl
        have hrx := opd_rep hgl he hx
        have hry := opd_rep hgl he hy
        simp only [step] at hs
        split at hs
        · rename_i xs ys e1 e2
          simp only [Option.map_eq_some_iff, Prod.mk.injEq] at hs
          obtain ⟨res, h1, rfl, rfl⟩ := hs
          rw [e1] at hrx
          rw [e2] at hry
          have h3 := eqAgg_run (P := P) (w := w) (neg := neg) (ox := x) (oy := y) ht hl hrx hry h1
          rw [← hopn] at h3
          exact OpOk.quiet R (by simp only [execOp, hop]) h3 (RepV.bool _ _)
        · simp at hs
      split at hc
      · injection hc with hc; exact fin false rfl hc.symm
      · injection hc with hc; exact fin true rfl hc.symm
      · simp at hc
    · exact ok_bin hop hgl he R hc hs
  case unOp op t x =>
    simp only [Option.map_eq_some_iff] at hc
    obtain ⟨y, hy, rfl⟩ := hc
    simp only [step] at hs
    obtain ⟨h1, h2⟩ := some_pair hs
    simp only at h1 h2
    subst h2
    obtain ⟨r, h3, h4⟩ := un_run (P := P) (w := w) (opd_rep hgl he hy) h1
    exact OpOk.quiet R (by simp only [execOp, hop]) h3 h4
  case convert s d x => exact ok_conv hop hgl he R hc hs
  case makeInterface t x =>
    simp only [Option.bind_eq_some_iff] at hc
    obtain ⟨d, hd, hc⟩ := hc
    have fin : ∀ y, opd gl x = some y → ao = .makeIface t y → (∀ ms, d ≠ .interface ms) → OpOk P o a G h' w v := by
      rintro y hy rfl hni
      simp only [step] at hs
      split at hs
      · simp only [Option.some.injEq, Prod.mk.injEq] at hs
        obtain ⟨rfl, rfl⟩ := hs
        refine OpOk.quiet (s := Instr.makeInterface t (a.eval x)) (r := .iface t (a.eval x)) R (by simp only [execOp, hop]) ?_ (by simp only [RepV]; exact ⟨_, rfl, opd_rep hgl he hy⟩)
        simp only [Instr.makeInterface, Sem.run_bind, run_underlying hd w, Result.andThen_ok]
        cases d <;> first | rfl | exact absurd rfl (hni _)
      · simp at hs
    split at hc
    · simp at hc
    · rename_i hni
      simp only [Option.map_eq_some_iff] at hc
      obtain ⟨y, hy, rfl⟩ := hc
      exact fin y hy rfl hni
  case makeFunc f x c =>
    simp only [Option.bind_eq_some_iff, Option.map_eq_some_iff] at hc
    obtain ⟨x', hx, c', hcc, rfl⟩ := hc
    simp only [step, Option.some.injEq, Prod.mk.injEq] at hs
    obtain ⟨rfl, rfl⟩ := hs
    refine OpOk.quiet (s := Instr.makeFunc f (x.map a.eval) (c.map a.eval)) (r := .func f (x.map a.eval) (c.map a.eval)) R (by simp only [execOp, hop]) rfl ?_
    simp only [RepV]
    exact ⟨_, _, rfl, by simpa using opds_rep hgl he hx, by simpa using opds_rep hgl he hcc⟩
  case makeSlice t l c =>
    simp only [Option.bind_eq_some_iff] at hc
    obtain ⟨d, hd, hc⟩ := hc
    split at hc
    · rename_i e
      simp only [Option.bind_eq_some_iff] at hc
      obtain ⟨sz, hg, zs, hz, hc⟩ := hc
      split at hc
      · simp only [Option.bind_eq_some_iff, Option.map_eq_some_iff] at hc
        obtain ⟨l', hl, c', hcc, rfl⟩ := hc
        exact ok_makeSlice hop hgl he R hd hg hz hl hcc hs
      · simp at hc
    · simp at hc
  case slice t x lo hi mx =>
    simp only [Option.bind_eq_some_iff] at hc
    obtain ⟨d, hd, x', hx, lo', hl, hi', hh, mx', hm, hc⟩ := hc
    have hmn : mx'.isNone = true → mx = none := by
      intro e
      cases mx with
      | none => rfl
      | some m =>
        simp only [opdO, Option.map_eq_some_iff] at hm
        obtain ⟨q, _, rfl⟩ := hm
        simp at e
    split at hc
    · split at hc
      · rename_i e
        have := hmn e
        subst this
        injection hc with hc
        subst hc
        exact ok_sliceStr hop hgl he R hd hx hl hh hs
      · simp at hc
    · simp only [Option.map_eq_some_iff] at hc
      obtain ⟨sz, hg, rfl⟩ := hc
      exact ok_slice hop hgl he R hd hg hx hl hh hm hs
    · split at hc
      · rename_i e
        have := hmn e
        subst this
        simp only [Option.map_eq_some_iff] at hc
        obtain ⟨sz, hg, rfl⟩ := hc
        exact ok_sliceArr hop hgl he R hd hg hx hl hh hs
      · simp at hc
    · simp at hc
  case fieldAddr t x i =>
    simp only [Option.bind_eq_some_iff] at hc
    obtain ⟨d, hd, hc⟩ := hc
    split at hc
    · rename_i fs
      simp only [Option.bind_eq_some_iff] at hc
      obtain ⟨f, hf, s, hs', hc⟩ := hc
      split at hc
      · rename_i hpos
        simp only [Option.map_eq_some_iff] at hc
        obtain ⟨y, hy, rfl⟩ := hc
        simp only [step] at hs
        obtain ⟨h1, h2⟩ := some_pair hs
        simp only at h1 h2
        subst h2
        obtain ⟨r, h3, h4⟩ := fieldAddr_run (P := P) (w := w) hd hf hs' hpos (opd_rep hgl he hy) h1
        exact OpOk.quiet R (by simp only [execOp, hop]) h3 h4
      · simp at hc
    · simp at hc
  case field t x i =>
    simp only [Option.bind_eq_some_iff] at hc
    obtain ⟨d, hd, hc⟩ := hc
    split at hc
    · rename_i fs
      simp only [Option.bind_eq_some_iff, Option.map_eq_some_iff] at hc
      obtain ⟨f, hf, n, hn, y, hy, rfl⟩ := hc
      have hrx := opd_rep hgl he hy
      simp only [step] at hs
      split at hs
      · rename_i cs e
        obtain ⟨h1, h2⟩ := some_pair hs
        simp only at h1 h2
        subst h2
        rw [e] at hrx
        obtain ⟨r, h3, h4⟩ := field_run (P := P) (w := w) hd hf hn hrx h1
        exact OpOk.quiet R (by simp only [execOp, hop]) h3 h4
      · simp at hs
    · simp at hc
  case indexAddr t x i =>
    simp only [Option.bind_eq_some_iff] at hc
    obtain ⟨d, hd, x', hx, i', hi, hc⟩ := hc
    split at hc
    · rename_i e
      simp only [Option.map_eq_some_iff] at hc
      obtain ⟨s, hs', rfl⟩ := hc
      simp only [step, Option.bind_eq_some_iff] at hs
      obtain ⟨k, hk, hs⟩ := hs
      obtain ⟨h1, h2⟩ := some_pair hs
      simp only at h1 h2
      subst h2
      obtain ⟨r, h3, h4⟩ := indexS_run (P := P) R hd hs' (opd_rep hgl he hx) (opd_rep hgl he hi) hk h1
      exact OpOk.quiet R (by simp only [execOp, hop]) h3 h4
    · rename_i n e
      simp only [Option.map_eq_some_iff] at hc
      obtain ⟨s, hs', rfl⟩ := hc
      simp only [step, Option.bind_eq_some_iff] at hs
      obtain ⟨k, hk, hs⟩ := hs
      split at hs
      · rename_i hlt
        obtain ⟨h1, h2⟩ := some_pair hs
        simp only at h1 h2
        subst h2
        obtain ⟨r, h3, h4⟩ := indexA_run (P := P) (w := w) hd hs' (opd_rep hgl he hx) (opd_rep hgl he hi) hk hlt h1
        exact OpOk.quiet R (by simp only [execOp, hop]) h3 h4
      · simp at hs
    · simp at hc
  case index t x i =>
    simp only [Option.bind_eq_some_iff] at hc
    obtain ⟨d, hd, x', hx, i', hi, hc⟩ := hc
    split at hc
    · rename_i n e
      simp only [Option.bind_eq_some_iff, Option.map_eq_some_iff] at hc
      obtain ⟨m, hm, s, hs', rfl⟩ := hc
      simp only [step, Option.bind_eq_some_iff] at hs
      obtain ⟨k, hk, hs⟩ := hs
      have hrx := opd_rep hgl he hx
      split at hs
      · rename_i hlt
        split at hs
        · rename_i cs ec
          obtain ⟨h1, h2⟩ := some_pair hs
          simp only at h1 h2
          subst h2
          rw [ec] at hrx
          obtain ⟨r, h3, h4⟩ := idxArr_run (P := P) (w := w) hd hm hs' hrx (opd_rep hgl he hi) hk hlt h1
          exact OpOk.quiet R (by simp only [execOp, hop]) h3 h4
        · simp at hs
      · simp at hs
    · injection hc with hc
      subst hc
      simp only [step, Option.bind_eq_some_iff] at hs
      obtain ⟨k, hk, hs⟩ := hs
      have hrx := opd_rep hgl he hx
      split at hs
      · rename_i s es
        simp only [Option.map_eq_some_iff, Prod.mk.injEq] at hs
        obtain ⟨c, h1, rfl, rfl⟩ := hs
        rw [es] at hrx
        have h3 := idxStr_run (P := P) (w := w) hd hrx (opd_rep hgl he hi) hk h1
        exact OpOk.quiet R (by simp only [execOp, hop]) h3 (RepV.int _ _ _)
      · simp at hs
    · simp at hc
  case extract x i =>
    simp only [Option.map_eq_some_iff] at hc
    obtain ⟨y, hy, rfl⟩ := hc
    have hrx := opd_rep hgl he hy
    simp only [step] at hs
    split at hs
    · rename_i vs es
      obtain ⟨h1, h2⟩ := some_pair hs
      simp only at h1 h2
      subst h2
      rw [es] at hrx
      simp only [RepV] at hrx
      obtain ⟨rs, hr, hl⟩ := hrx
      obtain ⟨r, h3, h4⟩ := hl.get h1
      refine OpOk.quiet (s := Instr.extract (a.eval x) i) R (by simp only [execOp, hop]) ?_ h4
      rw [hr]
      rw [Array.getElem?_toList] at h3
      simp [Instr.extract, h3]
    · simp at hs
  case call c =>
    obtain ⟨callee, args, ts⟩ := c
    simp only [compCall] at hc
    split at hc
    · simp only [Option.bind_eq_some_iff, Option.map_eq_some_iff] at hc
      obtain ⟨f, hf, xs, hx, rfl⟩ := hc
      simp [step] at hs
    · rename_i b
      have hres : execOp a.eval o = builtin b ts o.type (args.map fun | .const _ => true | _ => false) (args.map a.eval) := by
        simp only [execOp, hop, resolve]
        rfl
      unfold compBuiltin at hc
      split at hc
      · rename_i t x e1 e2
        have ets : ts = #[t] := by rw [← Array.toArray_toList (xs := ts), e1]
        have exs : args = #[x] := by rw [← Array.toArray_toList (xs := args), e2]
        subst ets; subst exs
        simp only [Option.bind_eq_some_iff] at hc
        obtain ⟨d, hd, hc⟩ := hc
        have hgo : ∀ {n : Nat}, (Builtin.len_ #[t] o.type #[a.eval x]).run P w = .ok (goInt n) w → v = .int n → h' = h → OpOk P o a G h' w v := by
          rintro n h1 rfl rfl
          refine ⟨goInt n, w, G, .inl ?_, Ext.refl G, R, RepV.int _ _ _, Bel.refl _ _⟩
          rw [hres]
          simp only [builtin, List.map_toArray, List.map_cons, List.map_nil, Sem.run_bind, h1, Result.andThen_ok]
          rfl
        split at hc
        · simp only [Option.map_eq_some_iff] at hc
          obtain ⟨y, hy, rfl⟩ := hc
          have hrx := opd_rep hgl he hy
          simp only [step] at hs
          split at hs
          · rename_i s es
            simp only [Option.some.injEq, Prod.mk.injEq] at hs
            rw [es] at hrx
            refine hgo (n := s.size) ?_ hs.1.symm hs.2.symm
            rw [hrx.sc_inv]
            simp [Builtin.len_, run_underlying hd w]
          · simp at hs
        · simp only [Option.map_eq_some_iff] at hc
          obtain ⟨y, hy, rfl⟩ := hc
          have hrx := opd_rep hgl he hy
          simp only [step] at hs
          obtain ⟨h1, h2⟩ : ∃ n : Nat, zk (y.get en) = some n ∧ v = .int n ∧ h' = h := by
            simp only [Option.map_eq_some_iff, Prod.mk.injEq] at hs
            obtain ⟨n, h1, h2, h3⟩ := hs
            exact ⟨n, h1, h2.symm, h3.symm⟩
          rename_i e0 n
          have hsl : ∃ b c, a.eval x = .slice b h1 c := by
            obtain ⟨h2, _⟩ := h2
            unfold zk at h2
            split at h2
            · rename_i ee
              rw [ee] at hrx
              injection h2 with h2
              subst h2
              simp only [RepV] at hrx
              obtain ⟨b, c, hr, _⟩ := hrx
              exact ⟨b, c, hr⟩
            · rename_i ee
              rw [ee] at hrx
              injection h2 with h2
              subst h2
              simp only [RepV] at hrx
              obtain ⟨_, b, c, hr, _⟩ := hrx
              exact ⟨_, c, hr⟩
            · rename_i ee
              rw [ee] at hrx
              injection h2 with h2
              subst h2
              exact ⟨none, 0, hrx.sc_inv⟩
            · simp at h2
          obtain ⟨b, c, hr⟩ := hsl
          refine hgo (n := h1) ?_ h2.2.1 h2.2.2
          rw [hr]
          simp [Builtin.len_, run_underlying hd w]
        · rename_i n e
          injection hc with hc
          subst hc
          simp only [step, Option.some.injEq, Prod.mk.injEq] at hs
          refine hgo (n := n) ?_ hs.1.symm hs.2.symm
          simp [Builtin.len_, run_underlying hd w]
        · simp only [Option.map_eq_some_iff] at hc
          obtain ⟨y, hy, rfl⟩ := hc
          simp only [step, Option.map_eq_some_iff, Prod.mk.injEq] at hs
          obtain ⟨n, h1, h2, h3⟩ := hs
          exact hgo (n := n) (lenM_run R hd (opd_rep hgl he hy) h1) h2.symm h3.symm
        · simp at hc
      · rename_i t u s x e1 e2
        have ets : ts = #[t, u] := by rw [← Array.toArray_toList (xs := ts), e1]
        have exs : args = #[s, x] := by rw [← Array.toArray_toList (xs := args), e2]
        subst ets; subst exs
        simp only [Option.bind_eq_some_iff] at hc
        obtain ⟨d, hd, hc⟩ := hc
        split at hc
        · rename_i e
          simp only [Option.bind_eq_some_iff] at hc
          obtain ⟨sz, hg, du, hdu, hc⟩ := hc
          have fin : (P.underlying u = some .string ∨ ∃ e', P.underlying u = some (.slice e')) → ∀ s' x', opd gl s = some s' → opd gl x = some x' → ao = .append e sz s' x' → OpOk P o a G h' w v := by
            rintro hu s' x' hs' hx' rfl
            simp only [step, Option.bind_eq_some_iff] at hs
            obtain ⟨new, h1, h2⟩ := hs
            obtain ⟨r, w', G', h3, h4, h5, h6, h7⟩ := append_run (P := P) (ty := o.type) R hd hu hg (opd_rep hgl he hs') (opd_rep hgl he hx') h1 h2
            refine ⟨r, w', G', .inl ?_, h4, h5, h6, h7⟩
            rw [hres]
            simp only [builtin, List.map_toArray, List.map_cons, List.map_nil, Sem.run_bind, h3, Result.andThen_ok]
            rfl
          split at hc
          · simp only [Option.bind_eq_some_iff, Option.map_eq_some_iff] at hc
            obtain ⟨s', hs', x', hx', rfl⟩ := hc
            exact fin (.inr ⟨_, hdu⟩) s' x' hs' hx' rfl
          · simp only [Option.bind_eq_some_iff, Option.map_eq_some_iff] at hc
            obtain ⟨s', hs', x', hx', rfl⟩ := hc
            exact fin (.inl hdu) s' x' hs' hx' rfl
          · simp at hc
        · simp at hc
      · rename_i t x e1 e2
        have ets : ts = #[t] := by rw [← Array.toArray_toList (xs := ts), e1]
        have exs : args = #[x] := by rw [← Array.toArray_toList (xs := args), e2]
        subst ets; subst exs
        simp only [Option.bind_eq_some_iff] at hc
        obtain ⟨d, hd, hc⟩ := hc
        split at hc
        · simp only [Option.map_eq_some_iff] at hc
          obtain ⟨y, hy, rfl⟩ := hc
          simp only [step, Option.map_eq_some_iff, Prod.mk.injEq] at hs
          obtain ⟨n, h1, rfl, rfl⟩ := hs
          have h3 := cap_run (P := P) (w := w) (ty := o.type) hd (opd_rep hgl he hy) h1
          refine ⟨_, w, G, .inl ?_, Ext.refl G, R, RepV.int _ _ _, Bel.refl _ _⟩
          rw [hres]
          simp only [builtin, List.map_toArray, List.map_cons, List.map_nil, Sem.run_bind, h3, Result.andThen_ok]
          rfl
        · simp at hc
      · rename_i t u s x e1 e2
        have ets : ts = #[t, u] := by rw [← Array.toArray_toList (xs := ts), e1]
        have exs : args = #[s, x] := by rw [← Array.toArray_toList (xs := args), e2]
        subst ets; subst exs
        simp only [Option.bind_eq_some_iff] at hc
        obtain ⟨d, hd, hc⟩ := hc
        split at hc
        · rename_i e
          simp only [Option.bind_eq_some_iff] at hc
          obtain ⟨sz, hg, du, hdu, hc⟩ := hc
          have fin : ∀ s' x', opd gl s = some s' → opd gl x = some x' → ao = .copy sz s' x' → OpOk P o a G h' w v := by
            rintro s' x' hs' hx' rfl
            simp only [step, Option.bind_eq_some_iff, Option.map_eq_some_iff, Prod.mk.injEq] at hs
            obtain ⟨new, h1, ⟨k, h2⟩, h3, rfl, rfl⟩ := hs
            obtain ⟨w', h4, h5, h6⟩ := copy_run (P := P) (u := u) (ty := o.type) R hd hg (opd_rep hgl he hs') (opd_rep hgl he hx') h1 h3
            refine ⟨goInt k, w', G, .inl ?_, Ext.refl G, h5, RepV.int _ _ _, h6⟩
            rw [hres]
            simp only [builtin, List.map_toArray, List.map_cons, List.map_nil, Sem.run_bind, h4, Result.andThen_ok]
            rfl
          split at hc
          · simp only [Option.bind_eq_some_iff, Option.map_eq_some_iff] at hc
            obtain ⟨s', hs', x', hx', rfl⟩ := hc
            exact fin s' x' hs' hx' rfl
          · simp only [Option.bind_eq_some_iff, Option.map_eq_some_iff] at hc
            obtain ⟨s', hs', x', hx', rfl⟩ := hc
            exact fin s' x' hs' hx' rfl
          · simp at hc
        · simp at hc
      · rename_i x e2
        have exs : args = #[x] := by rw [← Array.toArray_toList (xs := args), e2]
        subst exs
        simp only [Option.map_eq_some_iff] at hc
        obtain ⟨y, hy, rfl⟩ := hc
        simp only [step] at hs
        obtain ⟨h1, h2⟩ := some_pair hs
        simp only at h1 h2
        subst h2
        obtain ⟨r, h3, h4⟩ := sliceData_run (P := P) (ts := ts) (ty := o.type) R (opd_rep hgl he hy) h1
        refine ⟨r, w, G, .inl ?_, Ext.refl G, R, h4, Bel.refl _ _⟩
        rw [hres]
        simp only [builtin, List.map_toArray, List.map_cons, List.map_nil, Sem.run_bind, h3, Result.andThen_ok]
        rfl
      · rename_i pt it x n e1 e2
        have ets : ts = #[pt, it] := by rw [← Array.toArray_toList (xs := ts), e1]
        have exs : args = #[x, n] := by rw [← Array.toArray_toList (xs := args), e2]
        subst ets; subst exs
        simp only [Option.bind_eq_some_iff] at hc
        obtain ⟨d, hd, hc⟩ := hc
        split at hc
        · split at hc
          · rename_i hcell
            simp only [Option.bind_eq_some_iff, Option.map_eq_some_iff] at hc
            obtain ⟨x', hx, n', hn, rfl⟩ := hc
            simp only [step] at hs
            split at hs
            · rename_i k ek
              split at hs
              · rename_i h0
                have hrn := opd_rep hgl he hn
                rw [ek] at hrn
                have hrn := hrn.sc_inv
                obtain ⟨r, w', h3, h4, h5, h6⟩ := strData_run (P := P) (it := it) (ty := o.type) R hd hcell (opd_rep hgl he hx) hs
                refine ⟨r, w', G, .inl ?_, Ext.refl G, h4, h5, h6⟩
                rw [hres]
                have hk : (Value.int .i64 (k.toNat : Int)) = .int .i64 k := by rw [Int.toNat_of_nonneg h0]
                rw [hk] at h3
                simp only [builtin, List.map_toArray, List.map_cons, List.map_nil, Sem.run_bind, hrn, h3, Result.andThen_ok]
                rfl
              · simp at hs
            · simp at hs
          · simp at hc
        · simp at hc
      · simp only [Option.map_eq_some_iff] at hc
        obtain ⟨ys, hy, rfl⟩ := hc
        exact ok_minmax (mx := true) hop hgl he R hy hs
      · simp only [Option.map_eq_some_iff] at hc
        obtain ⟨ys, hy, rfl⟩ := hc
        exact ok_minmax (mx := false) hop hgl he R hy hs
      · simp at hc
    · simp at hc
end
end
section
open Go.RowKit (Below)
def CallsF (P : Program) (f : FuncId) (args : Array Value) (w : World) (R : Value → World → Prop) : Prop :=
  match (callFunc f args).run P w with
  | .ok (.value v) w' => R v w'
  | .ok (.enter g as) w' => Calls P g as w' fun
      | .returned v, w'' => R v w''
      | _, _ => False
  | .ok (.row row as) w' => Rows P row as w' R
  | _ => False
def HeapOk (base : Nat) (h : Heap) : Prop :=
  ∀ b, b < base → (∀ t cs, h[b]? = some (.box t cs) → refsLts base cs = true) ∧ (∀ t sz e rows, h[b]? = some (.row t sz e rows) → ∀ r ∈ rows, refsLts base r = true) ∧ (∀ es, h[b]? = some (.mmap es) → ∀ e ∈ es, refsLt base e.2 = true)
def Grow (base : Nat) (h h' : Heap) : Prop := h.length ≤ h'.length ∧ ∀ n, n ≤ base → n ≤ h.length → HeapOk n h → HeapOk n h'
theorem Grow.refl (base : Nat) (h : Heap) : Grow base h h := ⟨Nat.le_refl _, fun _ _ _ h => h⟩
theorem Grow.trans {base : Nat} {a b c : Heap} (h : Grow base a b) (k : Grow base b c) : Grow base a c :=
  ⟨Nat.le_trans h.1 k.1, fun n h1 h2 ho => k.2 n h1 (Nat.le_trans h2 h.1) (h.2 n h1 h2 ho)⟩
structure Reach (G : Tie) (w : World) (h' : Heap) (w' : World) (G' : Tie) : Prop where
  ext : Ext G G'
  rel : Rel G' h' w'
  below : Bel G w w'
theorem Reach.refl {G : Tie} {h : Heap} {w : World} (R : Rel G h w) : Reach G w h w G := ⟨Ext.refl G, R, Bel.refl _ _⟩
theorem Reach.trans {G G' G'' : Tie} {h h' : Heap} {w w' w'' : World} (a : Reach G w h w' G') (b : Reach G' w' h' w'' G'') : Reach G w h' w'' G'' :=
  ⟨a.ext.trans b.ext, b.rel, a.below.trans ⟨by have := b.below.bel; rwa [a.ext.b0] at this, by have := b.below.kept; rwa [a.ext.kp] at this⟩⟩
structure CallOk (P : Program) (gl : Nat → Option (List V)) (call : CallF) : Prop where
  grow : ∀ base f args h r h', call base f args h = some (r, h') → base ≤ h.length → Grow base h h'
  runs : ∀ base f args h r h', call base f args h = some (r, h') → base ≤ h.length → ∀ G w vals, GlobOk G gl → Rel G h w → RepL G args vals.toList →
    CallsF P f vals w fun rv w' => ∃ G', Reach G w h' w' G' ∧ RepV G' r rv
theorem refsLts_all {n : Nat} : ∀ {l : List V}, refsLts n l = true ↔ ∀ v ∈ l, refsLt n v = true
  | [] => by simp [refsLts]
  | v :: r => by simp [refsLts, refsLts_all]
mutual
theorem refsLt_mono {n m : Nat} (h : n ≤ m) : ∀ {v : V}, refsLt n v = true → refsLt m v = true
  | .undef, _ => by simp [refsLt]
  | .opq, _ => by simp [refsLt]
  | .sc _, _ => by simp [refsLt]
  | .slc .., _ => by simp [refsLt]
  | .eptr .., _ => by simp [refsLt]
  | .ptr .., hv => by simp [refsLt] at hv ⊢; omega
  | .hsl .., hv => by simp [refsLt] at hv ⊢; omega
  | .rptr .., hv => by simp [refsLt] at hv ⊢; omega
  | .mp _, hv => by simp [refsLt] at hv ⊢; omega
  | .fn f a c, hv => by
    simp only [refsLt, Bool.and_eq_true] at hv ⊢
    exact ⟨refsLts_mono h hv.1, refsLts_mono h hv.2⟩
  | .agg cs, hv => by
    simp only [refsLt] at hv ⊢
    exact refsLts_mono h hv
  | .tup cs, hv => by
    simp only [refsLt] at hv ⊢
    exact refsLts_mono h hv
  | .ifc t v, hv => by
    simp only [refsLt] at hv ⊢
    exact refsLt_mono h hv
theorem refsLts_mono {n m : Nat} (h : n ≤ m) : ∀ {l : List V}, refsLts n l = true → refsLts m l = true
  | [], _ => by simp [refsLts]
  | v :: r, hv => by
    simp only [refsLts, Bool.and_eq_true] at hv ⊢
    exact ⟨refsLt_mono h hv.1, refsLts_mono h hv.2⟩
end
theorem HeapOk.app {n : Nat} {h : Heap} (ho : HeapOk n h) (hn : n ≤ h.length) (o : Obj) : HeapOk n (h ++ [o]) := by
  intro b hb
  have : (h ++ [o])[b]? = h[b]? := List.getElem?_append_left (by omega)
  rw [this]
  exact ho b hb
theorem Grow.app (base : Nat) (h : Heap) (o : Obj) : Grow base h (h ++ [o]) := ⟨by simp, fun _ _ h2 ho => ho.app h2 o⟩
theorem HeapOk.setBox {n b : Nat} {t : TypeId} {h : Heap} {cs : List V} (ho : HeapOk n h) (hc : b < n → refsLts n cs = true) : HeapOk n (h.set b (.box t cs)) := by
  intro c hc'
  by_cases e : c = b
  · subst e
    rcases Nat.lt_or_ge c h.length with hl | hl
    · rw [List.getElem?_set_self hl]
      refine ⟨fun _ cs' he => ?_, fun _ _ _ _ he => by simp at he, fun _ he => by simp at he⟩
      simp at he
      obtain ⟨_, rfl⟩ := he
      exact hc hc'
    · rw [List.getElem?_eq_none (by simpa using hl)]
      exact ⟨fun _ _ he => by simp at he, fun _ _ _ _ he => by simp at he, fun _ he => by simp at he⟩
  · rw [List.getElem?_set_ne (by omega)]
    exact ho c hc'
theorem HeapOk.setRow {n b sz e : Nat} {t : TypeId} {h : Heap} {rows : List (List V)} (ho : HeapOk n h) (hc : b < n → ∀ r ∈ rows, refsLts n r = true) : HeapOk n (h.set b (.row t sz e rows)) := by
  intro c hc'
  by_cases ec : c = b
  · subst ec
    rcases Nat.lt_or_ge c h.length with hl | hl
    · rw [List.getElem?_set_self hl]
      refine ⟨fun _ cs' he => by simp at he, fun _ _ _ rows' he => ?_, fun _ he => by simp at he⟩
      simp at he
      obtain ⟨_, _, _, rfl⟩ := he
      exact hc hc'
    · rw [List.getElem?_eq_none (by simpa using hl)]
      exact ⟨fun _ _ he => by simp at he, fun _ _ _ _ he => by simp at he, fun _ he => by simp at he⟩
  · rw [List.getElem?_set_ne (by omega)]
    exact ho c hc'
theorem HeapOk.setMap {n b : Nat} {h : Heap} {es : List (Value × V)} (ho : HeapOk n h) (hc : b < n → ∀ e ∈ es, refsLt n e.2 = true) : HeapOk n (h.set b (.mmap es)) := by
  intro c hc'
  by_cases ec : c = b
  · subst ec
    rcases Nat.lt_or_ge c h.length with hl | hl
    · rw [List.getElem?_set_self hl]
      refine ⟨fun _ cs' he => by simp at he, fun _ _ _ rows' he => by simp at he, fun es' he => ?_⟩
      simp at he
      subst he
      exact hc hc'
    · rw [List.getElem?_eq_none (by simpa using hl)]
      exact ⟨fun _ _ he => by simp at he, fun _ _ _ _ he => by simp at he, fun _ he => by simp at he⟩
  · rw [List.getElem?_set_ne (by omega)]
    exact ho c hc'
theorem mayStore_refs {base b n : Nat} {cs : List V} (h : mayStore base b cs = true) (hb : b < n) (hn : n ≤ base) : refsLts n cs = true := by
  unfold mayStore at h
  simp only [Bool.or_eq_true, decide_eq_true_eq] at h
  rcases h with h | h
  · omega
  · exact refsLts_mono (by omega) h
theorem refsLts_append {n : Nat} {a b : List V} (h : refsLts n a = true) (k : refsLts n b = true) : refsLts n (a ++ b) = true := by
  rw [refsLts_all] at *
  intro v hv
  rcases List.mem_append.1 hv with hv | hv
  · exact h v hv
  · exact k v hv
theorem refsLts_sub {n : Nat} {a b : List V} (h : refsLts n a = true) (hs : ∀ v ∈ b, v ∈ a) : refsLts n b = true := by
  rw [refsLts_all] at *
  exact fun v hv => h v (hs v hv)
theorem refsLts_put {n off : Nat} {cs new : List V} (h : refsLts n cs = true) (k : refsLts n new = true) : refsLts n (putCells cs off new) = true := by
  unfold putCells
  exact refsLts_append (refsLts_append (refsLts_sub h fun _ hv => List.mem_of_mem_take hv) k) (refsLts_sub h fun _ hv => List.mem_of_mem_drop hv)
theorem storeV_grow {base n : Nat} {h h' : Heap} {a x : V} (hs : storeV base h n a x = some h') : Grow base h h' := by
  unfold storeV at hs
  split at hs
  case isFalse => simp at hs
  split at hs
  · rename_i b off
    split at hs
    · rename_i cs eq
      split at hs
      · rename_i hc
        injection hs with hs
        subst hs
        exact ⟨by simp, fun m h1 h2 ho => ho.setBox fun hb => refsLts_put ((ho b hb).1 _ cs eq) (mayStore_refs hc.2 hb h1)⟩
      · simp at hs
    · simp at hs
  · rename_i b e i off
    split at hs
    · rename_i ty sz e' rows eq
      split at hs
      · split at hs
        · rename_i cs hi
          split at hs
          · rename_i hc
            injection hs with hs
            subst hs
            refine ⟨by simp, fun m h1 h2 ho => ho.setRow fun hb r hr => ?_⟩
            rcases List.mem_or_eq_of_mem_set hr with hr | rfl
            · exact (ho b hb).2.1 _ _ _ rows eq r hr
            · exact refsLts_put ((ho b hb).2.1 _ _ _ rows eq cs (List.mem_of_getElem? hi)) (mayStore_refs hc.2 hb h1)
          · split at hs
            · rename_i hc
              injection hs with hs
              subst hs
              refine ⟨by simp, fun m h1 h2 ho => ho.setRow fun hb r hr => ?_⟩
              refine refsLts_sub (refsLts_put (cs := rows.flatten) ?_ (mayStore_refs hc.2.2 hb h1)) (chunk_mem hr)
              rw [refsLts_all]
              intro v hv
              obtain ⟨r', hr', hv'⟩ := List.mem_flatten.1 hv
              have := (ho b hb).2.1 _ _ _ rows eq r' hr'
              rw [refsLts_all] at this
              exact this v hv'
            · simp at hs
        · simp at hs
      · simp at hs
    · simp at hs
  · simp at hs
theorem appendV_grow {base sz : Nat} {t : TypeId} {h h' : Heap} {s v : V} {new : List (List V)} (hs : appendV base h t sz s new = some (v, h')) : Grow base h h' := by
  unfold appendV at hs
  split at hs
  · simp only [Option.map_eq_some_iff, Prod.mk.injEq] at hs
    obtain ⟨_, _, _, rfl⟩ := hs
    exact Grow.refl _ _
  · split at hs
    · split at hs
      · injection hs with hs
        simp only [Prod.mk.injEq] at hs
        rw [← hs.2]
        exact Grow.app _ _ _
      · simp at hs
    · split at hs
      · injection hs with hs
        simp only [Prod.mk.injEq] at hs
        rw [← hs.2]
        exact Grow.app _ _ _
      · simp at hs
    · rename_i b ep len
      split at hs
      · rename_i ty z e' rows eq
        split at hs
        · rename_i hc
          injection hs with hs
          simp only [Prod.mk.injEq] at hs
          rw [← hs.2]
          refine ⟨by simp, fun m h1 h2 ho => ho.setRow fun hb r hr => ?_⟩
          rcases List.mem_append.1 hr with hr | hr
          · exact (ho b hb).2.1 _ _ _ rows eq r (List.mem_of_mem_take hr)
          · exact mayStore_refs (List.all_eq_true.1 hc.2.2.2.2.2.2 r hr) hb h1
        · simp at hs
      · simp at hs
    · simp at hs
theorem copyV_grow {base sz : Nat} {h h' : Heap} {d : V} {k : Nat} {new : List (List V)} (hs : copyV base h sz d new = some (k, h')) : Grow base h h' := by
  unfold copyV at hs
  split at hs
  · simp at hs
  · rename_i m hm
    split at hs
    · simp only [Option.some.injEq, Prod.mk.injEq] at hs
      rw [← hs.2]
      exact Grow.refl _ _
    · rename_i hne
      split at hs
      · rename_i b e off len
        split at hs
        · rename_i ty z e' rows eq
          split at hs
          · rename_i hc
            simp only [Option.some.injEq, Prod.mk.injEq] at hs
            rw [← hs.2]
            refine ⟨by simp, fun m h1 h2 ho => ho.setRow fun hb r hr => ?_⟩
            rcases List.mem_append.1 hr with hr | hr
            · rcases List.mem_append.1 hr with hr | hr
              · exact (ho b hb).2.1 _ _ _ rows eq r (List.mem_of_mem_take hr)
              · exact mayStore_refs (List.all_eq_true.1 hc.2.2.2.2 r hr) hb h1
            · exact (ho b hb).2.1 _ _ _ rows eq r (List.mem_of_mem_drop hr)
          · simp at hs
        · simp at hs
      · simp at hs
theorem sliceV_grow {base sz lo : Nat} {hi mx : Option Nat} {h h' : Heap} {x v : V} (hs : zg h sz x lo hi mx = some (v, h')) : Grow base h h' := by
  unfold zg at hs
  split at hs
  · split at hs
    · injection hs with hs
      simp only [Prod.mk.injEq] at hs
      rw [← hs.2]
      exact Grow.refl _ _
    · simp at hs
  · rename_i b ep off len
    split at hs
    · split at hs
      · rename_i ty z e' rs eq
        split at hs
        · split at hs
          · injection hs with hs
            simp only [Prod.mk.injEq] at hs
            rw [← hs.2]
            exact Grow.refl _ _
          · split at hs
            · injection hs with hs
              simp only [Prod.mk.injEq] at hs
              rw [← hs.2]
              exact ⟨by simp, fun m h1 h2 ho => ho.setRow fun hb r hr => (ho b hb).2.1 _ _ _ rs eq r (List.mem_of_mem_take hr)⟩
            · simp at hs
        · simp at hs
      · simp at hs
    · simp at hs
  · split at hs
    · injection hs with hs
      simp only [Prod.mk.injEq] at hs
      rw [← hs.2]
      exact Grow.refl _ _
    · simp at hs
  · simp at hs
theorem HeapOk.setDead {n b : Nat} {h : Heap} (ho : HeapOk n h) : HeapOk n (h.set b .dead) := by
  intro c hc'
  by_cases ec : c = b
  · subst ec
    rcases Nat.lt_or_ge c h.length with hl | hl
    · rw [List.getElem?_set_self hl]
      exact ⟨fun _ _ he => by simp at he, fun _ _ _ _ he => by simp at he, fun _ he => by simp at he⟩
    · rw [List.getElem?_eq_none (by simpa using hl)]
      exact ⟨fun _ _ he => by simp at he, fun _ _ _ _ he => by simp at he, fun _ he => by simp at he⟩
  · rw [List.getElem?_set_ne (by omega)]
    exact ho c hc'
theorem strDataV_grow {base k : Nat} {u : TypeId} {h h' : Heap} {x v : V} (hs : strDataV h u k x = some (v, h')) : Grow base h h' := by
  unfold strDataV at hs
  split at hs
  · split at hs
    · injection hs with hs
      simp only [Prod.mk.injEq] at hs
      rw [← hs.2]
      exact Grow.refl _ _
    · simp at hs
  · split at hs
    · split at hs
      · simp only [Option.map_eq_some_iff, Prod.mk.injEq] at hs
        obtain ⟨_, _, _, rfl⟩ := hs
        exact ⟨by simp, fun m h1 h2 ho => ho.setDead⟩
      · simp at hs
    · simp at hs
  · simp at hs
def GrowO (base : Nat) (h : Heap) (x : Option (V × Heap)) : Prop := ∀ v h', x = some (v, h') → Grow base h h'
theorem GrowO.none {base : Nat} {h : Heap} : GrowO base h none := fun _ _ e => by simp at e
theorem GrowO.same {base : Nat} {h : Heap} {v : V} : GrowO base h (some (v, h)) := fun _ _ e => by
  simp only [Option.some.injEq, Prod.mk.injEq] at e
  rw [← e.2]
  exact Grow.refl _ _
theorem GrowO.app {base : Nat} {h : Heap} {v : V} {o : Obj} : GrowO base h (some (v, h ++ [o])) := fun _ _ e => by
  simp only [Option.some.injEq, Prod.mk.injEq] at e
  rw [← e.2]
  exact Grow.app _ _ _
theorem GrowO.map {α : Type} {base : Nat} {h : Heap} {x : Option α} {f : α → V} : GrowO base h (x.map fun a => (f a, h)) := fun _ _ e => by
  simp only [Option.map_eq_some_iff, Prod.mk.injEq] at e
  obtain ⟨_, _, _, rfl⟩ := e
  exact Grow.refl _ _
theorem GrowO.bind {α : Type} {base : Nat} {h : Heap} {x : Option α} {f : α → Option (V × Heap)} (hf : ∀ a, GrowO base h (f a)) : GrowO base h (x.bind f) := fun _ _ e => by
  simp only [Option.bind_eq_some_iff] at e
  obtain ⟨a, _, e⟩ := e
  exact hf a _ _ e
theorem GrowO.ite {base : Nat} {h : Heap} {c : Prop} [Decidable c] {x y : Option (V × Heap)} (hx : GrowO base h x) (hy : GrowO base h y) : GrowO base h (if c then x else y) := by
  split
  · exact hx
  · exact hy
theorem updateV_grow {base : Nat} {h h' : Heap} {kd : LK} {m k x : V} (hs : updateV base h kd m k x = some h') : Grow base h h' := by
  unfold updateV at hs
  simp only [Option.bind_eq_some_iff] at hs
  obtain ⟨key, _, hs⟩ := hs
  split at hs
  · rename_i b
    split at hs
    · rename_i es eq
      split at hs
      · rename_i hc
        simp only [Option.map_eq_some_iff] at hs
        obtain ⟨r, _, hs⟩ := hs
        have hx : ∀ n, b < n → n ≤ base → refsLt n x = true := fun n h1 h2 => by
          have := mayStore_refs hc.2 h1 h2
          simpa [refsLts] using this
        split at hs
        · subst hs
          refine ⟨by simp, fun n h1 h2 ho => ho.setMap fun hb e he => ?_⟩
          rcases List.mem_or_eq_of_mem_set he with he | rfl
          · exact (ho b hb).2.2 es eq e he
          · exact hx n hb h1
        · subst hs
          refine ⟨by simp, fun n h1 h2 ho => ho.setMap fun hb e he => ?_⟩
          rcases List.mem_append.1 he with he | he
          · exact (ho b hb).2.2 es eq e he
          · simp at he
            subst he
            exact hx n hb h1
      · simp at hs
    · simp at hs
  · simp at hs
theorem step_grow {base : Nat} {en : Env} {h h' : Heap} {op : AOp} {v : V} (hs : step base en h op = some (v, h')) : Grow base h h' := by
  refine (?_ : GrowO base h (step base en h op)) v h' hs
  clear hs v h'
  cases op <;> simp only [step]
  case store n a x =>
    intro v h' e
    simp only [Option.map_eq_some_iff, Prod.mk.injEq] at e
    obtain ⟨h2, h1, _, rfl⟩ := e
    exact storeV_grow h1
  case strData u x n =>
    split
    · refine GrowO.ite ?_ GrowO.none
      exact fun _ _ e => strDataV_grow e
    · exact GrowO.none
  case append t sz s x => exact GrowO.bind fun new => fun _ _ e => appendV_grow e
  case mapUpdate kd m k x =>
    intro v h' e
    simp only [Option.map_eq_some_iff, Prod.mk.injEq] at e
    obtain ⟨h2, h1, _, rfl⟩ := e
    exact updateV_grow h1
  case copy sz d x =>
    refine GrowO.bind fun new => fun _ _ e => ?_
    simp only [Option.map_eq_some_iff, Prod.mk.injEq] at e
    obtain ⟨⟨k, h2⟩, h1, _, rfl⟩ := e
    exact copyV_grow h1
  case slice sz x lo hi mx =>
    refine GrowO.bind fun l => ?_
    split
    · exact fun _ _ e => sliceV_grow e
    · exact GrowO.bind fun _ => fun _ _ e => sliceV_grow e
    · exact GrowO.bind fun _ => GrowO.bind fun _ => fun _ _ e => sliceV_grow e
    · exact GrowO.none
  all_goals repeat' first
    | exact GrowO.none
    | exact GrowO.same
    | exact GrowO.app
    | exact GrowO.map
    | refine GrowO.bind fun _ => ?_
    | refine GrowO.ite ?_ ?_
    | split
end
section
open Go.RowKit (Below)
section
variable {P : Program} {gl : Nat → Option (List V)} {call : CallF} {base n nt : Nat}
theorem evOp_grow (hc : CallOk P gl call) {en : Env} {h h' : Heap} {op : AOp} {v : V} (hb : base ≤ h.length) (hs : evOp call base en h op = some (v, h')) : Grow base h h' := by
  unfold evOp at hs
  split at hs
  · split at hs
    · exact hc.grow _ _ _ _ _ _ hs hb
    · simp at hs
  · split at hs
    · split at hs
      · rename_i v' h'' e1
        split at hs
        · injection hs with hs
          simp only [Prod.mk.injEq] at hs
          obtain ⟨rfl, rfl⟩ := hs
          exact hc.grow _ _ _ _ _ _ e1 hb
        · simp at hs
      · simp at hs
    · simp at hs
  · exact step_grow hs
theorem evOper_grow (hc : CallOk P gl call) {en : Env} {h h' : Heap} {o : AOper} {v : V} (hb : base ≤ h.length) (hs : evOper call base en h o = some (v, h')) : Grow base h h' := evOp_grow hc hb (evOper_inv hs).2
theorem evOps_grow (hc : CallOk P gl call) : ∀ {ops : List AOper} {en en' : Env} {h h' : Heap}, base ≤ h.length → evOps call base ops en h = some (en', h') → Grow base h h'
  | [], en, en', h, h', _, hs => by
    simp only [evOps, Option.some.injEq, Prod.mk.injEq] at hs
    rw [← hs.2]
    exact Grow.refl _ _
  | o :: ops, en, en', h, h', hb, hs => by
    have key : ∀ {v h1}, evOper call base en h o = some (v, h1) → evOps call base ops (en.put o.dst v) h1 = some (en', h') → Grow base h h' := by
      intro v h1 e1 e2
      have g1 := evOper_grow hc hb e1
      exact g1.trans (evOps_grow hc (Nat.le_trans hb g1.1) e2)
    unfold evOps at hs
    split at hs
    · split at hs
      · rename_i v h1 e1
        exact key e1 hs
      · simp at hs
    · split at hs
      · split at hs
        · rename_i v h1 e1
          exact key e1 hs
        · simp at hs
      · exact evOps_grow hc hb hs
      · simp at hs
theorem iter_grow {f : Env → Heap → Option (Ex × Env × Heap)} (hf : ∀ en h ex en' h', base ≤ h.length → f en h = some (ex, en', h') → Grow base h h') :
    ∀ (k : Nat) {en en' : Env} {h h' : Heap} {ex : Ex}, base ≤ h.length → iter f k en h = some (ex, en', h') → Grow base h h'
  | 0, _, _, _, _, _, _, hs => by simp [iter] at hs
  | k + 1, en, en', h, h', ex, hb, hs => by
    unfold iter at hs
    split at hs
    · rename_i en1 h1 e1
      have g1 := hf _ _ _ _ _ hb e1
      exact g1.trans (iter_grow hf k (Nat.le_trans hb g1.1) hs)
    · exact hf _ _ _ _ _ hb hs
theorem evC_grow (hc : CallOk P gl call) : ∀ {c : ACode} {en en' : Env} {h h' : Heap} {ex : Ex}, base ≤ h.length → evC call base n c en h = some (ex, en', h') → Grow base h h'
  | .skip, _, _, _, _, _, _, hs => by simp only [evC, Option.some.injEq, Prod.mk.injEq] at hs; rw [← hs.2.2]; exact Grow.refl _ _
  | .ret, _, _, _, _, _, _, hs => by simp only [evC, Option.some.injEq, Prod.mk.injEq] at hs; rw [← hs.2.2]; exact Grow.refl _ _
  | .exit id, _, _, _, _, _, _, hs => by simp only [evC, Option.some.injEq, Prod.mk.injEq] at hs; rw [← hs.2.2]; exact Grow.refl _ _
  | .fail, _, _, _, _, _, _, hs => by simp [evC] at hs
  | .seq a b, en, en', h, h', ex, hb, hs => by
    simp only [evC] at hs
    split at hs
    · rename_i en1 h1 e1
      have g1 := evC_grow hc hb e1
      exact g1.trans (evC_grow hc (Nat.le_trans hb g1.1) hs)
    · exact evC_grow hc hb hs
  | .cond c a b, en, en', h, h', ex, hb, hs => by
    simp only [evC] at hs
    split at hs
    · split at hs
      · exact evC_grow hc hb hs
      · exact evC_grow hc hb hs
    · simp at hs
  | .region ops, en, en', h, h', ex, hb, hs => by
    simp only [evC] at hs
    split at hs
    · rename_i en1 h1 e1
      simp only [Option.some.injEq, Prod.mk.injEq] at hs
      rw [← hs.2.2]
      exact evOps_grow hc hb e1
    · simp at hs
  | .block id c, en, en', h, h', ex, hb, hs => by
    simp only [evC] at hs
    split at hs
    · rename_i i en1 h1 e1
      have g1 := evC_grow hc hb e1
      split at hs
      · simp only [Option.some.injEq, Prod.mk.injEq] at hs
        rw [← hs.2.2]
        exact g1
      · simp only [Option.some.injEq, Prod.mk.injEq] at hs
        rw [← hs.2.2]
        exact g1
    · exact evC_grow hc hb hs
  | .loop c, en, en', h, h', ex, hb, hs => by
    simp only [evC] at hs
    exact iter_grow (fun _ _ _ _ _ hb e => evC_grow hc hb e) n hb hs
def AOp.isCall : AOp → Bool
  | .call _ _ => true
  | .callK _ _ _ => true
  | _ => false
def NoC (x : Option AOp) : Prop := ∀ y, x = some y → y.isCall = false
theorem NoC.none : NoC none := fun _ e => by simp at e
theorem NoC.some {y : AOp} (h : y.isCall = false) : NoC (some y) := fun _ e => by injection e with e; rw [← e]; exact h
theorem NoC.map {α : Type} {x : Option α} {f : α → AOp} (h : ∀ a, (f a).isCall = false) : NoC (x.map f) := fun _ e => by
  simp only [Option.map_eq_some_iff] at e
  obtain ⟨a, _, rfl⟩ := e
  exact h a
theorem NoC.bind {α : Type} {x : Option α} {f : α → Option AOp} (h : ∀ a, NoC (f a)) : NoC (x.bind f) := fun y e => by
  simp only [Option.bind_eq_some_iff] at e
  obtain ⟨a, _, e⟩ := e
  exact h a y e
theorem NoC.ite {c : Prop} [Decidable c] {x y : Option AOp} (hx : NoC x) (hy : NoC y) : NoC (if c then x else y) := by
  split
  · exact hx
  · exact hy
theorem compOp_call {op : Op} {f : Opd} {args : List Opd} (h : compOp P gl op = some (.call f args)) :
    ∃ fo as ts, op = .call { callee := .value fo, args := as, argTypes := ts } ∧ (∃ f0, opd gl fo = some f0 ∧ f = guardF gl f0) ∧ opds gl as.toList = some args := by
  have hno : ∀ x : Option AOp, NoC x → x ≠ some (.call f args) := fun x hx e => by have := hx _ e; simp [AOp.isCall] at this
  cases op
  case call c =>
    obtain ⟨callee, as, ts⟩ := c
    simp only [compOp, compCall] at h
    split at h
    · simp only [Option.bind_eq_some_iff, Option.map_eq_some_iff] at h
      obtain ⟨f', hf, xs, hx, he⟩ := h
      injection he with e1 e2
      subst e1; subst e2
      exact ⟨_, _, _, rfl, ⟨f', hf, rfl⟩, hx⟩
    · exfalso
      refine hno _ ?_ h
      unfold compBuiltin
      repeat' first
        | exact NoC.none
        | exact NoC.some rfl
        | exact NoC.map fun _ => rfl
        | refine NoC.bind fun _ => ?_
        | refine NoC.ite ?_ ?_
        | split
    · simp at h
  case makeMap t r =>
    exfalso
    cases r with
    | none => exact hno _ (NoC.some (y := .makeMap) rfl) h
    | some r => simp [compOp] at h
  all_goals
    exfalso
    refine hno _ ?_ h
    simp only [compOp, compBin, compConv]
    repeat' first
      | exact NoC.none
      | exact NoC.some rfl
      | exact NoC.map fun _ => rfl
      | refine NoC.bind fun _ => ?_
      | refine NoC.ite ?_ ?_
      | split
theorem compOp_noK {op : Op} {f : Opd} {args : List Opd} {ts : List Nat} (h : compOp P gl op = some (.callK f args ts)) : False := by
  have hno : ∀ x : Option AOp, NoC x → x ≠ some (.callK f args ts) := fun x hx e => by have := hx _ e; simp [AOp.isCall] at this
  cases op
  case call c =>
    obtain ⟨callee, as, us⟩ := c
    simp only [compOp, compCall] at h
    split at h
    · simp only [Option.bind_eq_some_iff, Option.map_eq_some_iff] at h
      obtain ⟨f', hf, xs, hx, he⟩ := h
      simp at he
    · exfalso
      refine hno _ ?_ h
      unfold compBuiltin
      repeat' first
        | exact NoC.none
        | exact NoC.some rfl
        | exact NoC.map fun _ => rfl
        | refine NoC.bind fun _ => ?_
        | refine NoC.ite ?_ ?_
        | split
    · simp at h
  case makeMap t r =>
    exfalso
    cases r with
    | none => exact hno _ (NoC.some (y := .makeMap) rfl) h
    | some r => simp [compOp] at h
  all_goals
    exfalso
    refine hno _ ?_ h
    simp only [compOp, compBin, compConv]
    repeat' first
      | exact NoC.none
      | exact NoC.some rfl
      | exact NoC.map fun _ => rfl
      | refine NoC.bind fun _ => ?_
      | refine NoC.ite ?_ ?_
      | split
theorem guardF_get (f : Opd) (en : Env) : (guardF gl f).get en = f.get en ∨ (guardF gl f).get en = .undef := by
  unfold guardF
  split
  · rename_i t
    split
    · generalize (List.range 1000).filter _ = qs
      simp only [Opd.get]
      split
      · rename_i k a c e
        split
        · exact .inl e.symm
        · exact .inr rfl
      · exact .inr rfl
    · exact .inl rfl
  · exact .inl rfl
theorem guardF_rep {G : Tie} {en : Env} {f : Opd} {r : Value} (h : RepV G (f.get en) r) : RepV G ((guardF gl f).get en) r := by
  rcases guardF_get (gl := gl) f en with e | e
  · rw [e]; exact h
  · rw [e]; simp [RepV]
theorem oper_wp (hc : CallOk P gl call) {G : Tie} {en : Env} {h h' : Heap} {a : Act} {w : World} {o : Oper} {ao : AOper} {all : List Oper} {v : V} {Q : Exit → Act → World → Prop} {next : Act → World → Prop}
    (hgl : GlobOk G gl) (he : RepEnv G en a.tmps) (R : Rel G h w) (hb : base ≤ h.length) (hco : compOper P gl nt all o = some ao) (hs : evOper call base en h ao = some (v, h'))
    (hn : ∀ r w' G', Reach G w h' w' G' → RepV G' v r → next (a.put o.dst r) w') : o.wp P a w next Q := by
  unfold compOper at hco
  have hop : ao.op = compOpT P gl o.op := by
    simp only at hco
    split at hco
    · split at hco
      · injection hco with hco; rw [← hco]
      · simp only [Option.map_eq_some_iff] at hco
        obtain ⟨d, _, rfl⟩ := hco
        rfl
    · simp at hco
  unfold Oper.wp
  have quiet : step base en h ao.op = some (v, h') → o.upon P a next Q ((execOp a.eval o).run P w) := by
    intro hst
    rw [hop] at hst
    unfold compOpT at hst
    cases hcp : compOp P gl o.op with
    | none => rw [hcp] at hst; simp [step] at hst
    | some op =>
      rw [hcp] at hst
      obtain ⟨r, w', G', hrun, x, R', hv, hbl⟩ := step_run hgl he R hcp hst
      rcases hrun with hrun | ⟨hrun, rfl⟩
      · rw [hrun]
        exact hn r w' G' ⟨x, R', hbl⟩ hv
      · rw [hrun]
        exact hn undef w' G' ⟨x, R', hbl⟩ hv
  have hs := (evOper_inv hs).2
  generalize hgo : ao.op = gop at hs
  unfold evOp at hs
  split at hs
  · rename_i f args
    have eop := hgo
    rw [hop] at eop
    split at hs
    · rename_i k vs et
      have hcp : compOp P gl o.op = some (.call f args) := by
        unfold compOpT at eop
        cases hcp : compOp P gl o.op with
        | none => rw [hcp] at eop; simp at eop
        | some op => rw [hcp] at eop; simp only [Option.getD_some] at eop; rw [eop]
      obtain ⟨fo, as, ts, ho, ⟨f0, hf, hf0⟩, hargs⟩ := compOp_call hcp
      have hfv : RepV G (f.get en) (a.eval fo) := by rw [hf0]; exact guardF_rep (opd_rep hgl he hf)
      have hav := opds_rep hgl he hargs
      unfold zr at et
      split at et
      · rename_i g fa fc ef
        injection et with et
        simp only [Prod.mk.injEq] at et
        obtain ⟨rfl, rfl⟩ := et
        rw [ef] at hfv
        simp only [RepV] at hfv
        obtain ⟨ra, rc, hr, h1, h2⟩ := hfv
        have hvals : RepL G (fa ++ zh en args ++ fc) ((ra ++ as.map a.eval) ++ rc).toList := by
          simp only [Array.toList_append]
          refine (h1.append ?_).append h2
          simpa using hav
        have hcall := hc.runs _ _ _ _ _ _ hs hb G w _ hgl R hvals
        have hex : execOp a.eval o = callFunc g ((ra ++ as.map a.eval) ++ rc) := by
          simp only [execOp, ho, resolve, hr, Deferred.ofValue]
          rfl
        rw [hex]
        unfold CallsF at hcall
        split at hcall
        · rename_i v' w' e1
          rw [e1]
          obtain ⟨G', hreach, hv⟩ := hcall
          exact hn _ _ _ hreach hv
        · rename_i g' as' w' e1
          rw [e1]
          rw [Oper.upon_enter]
          refine hcall.mono ?_
          intro e w'' hq
          cases e with
          | returned rv =>
            obtain ⟨G', hreach, hv⟩ := hq
            exact hn _ _ _ hreach hv
          | panicked chain => exact hq.elim
          | outgrown => exact hq.elim
        · rename_i row as' w' e1
          rw [e1]
          rw [Oper.upon_row]
          refine hcall.mono ?_
          intro rv w'' hq
          obtain ⟨G', hreach, hv⟩ := hq
          exact hn _ _ _ hreach hv
        · exact hcall.elim
      · simp at et
    · simp at hs
  · rename_i f args ts
    exfalso
    rw [hop] at hgo
    unfold compOpT at hgo
    cases hcp : compOp P gl o.op with
    | none => rw [hcp] at hgo; simp at hgo
    | some op => rw [hcp] at hgo; simp only [Option.getD_some] at hgo; subst hgo; exact compOp_noK hcp
  · exact quiet (by rw [hgo]; exact hs)
theorem compOper_inv {all : List Oper} {o : Oper} {ao : AOper} (h : compOper P gl nt all o = some ao) :
    ao.off = [] ∧ ao.dst = o.dst ∧ (∀ d, o.dst = some d → d < nt) ∧ ((o.guard = none ∧ ao.guard = none) ∨ ∃ j want d, o.guard = some (j, want) ∧ ao.guard = some (d, want) ∧ (all[j]?).bind (·.dst) = some d) := by
  unfold compOper at h
  simp only at h
  split at h
  · rename_i hd
    have hd' : ∀ d, o.dst = some d → d < nt := by
      intro d hdd
      rw [hdd] at hd
      simpa using hd
    split at h
    · rename_i hg
      injection h with h
      subst h
      exact ⟨rfl, rfl, hd', .inl ⟨hg, rfl⟩⟩
    · rename_i j want hg
      simp only [Option.map_eq_some_iff] at h
      obtain ⟨d, hdd, rfl⟩ := h
      exact ⟨rfl, rfl, hd', .inr ⟨j, want, d, hg, rfl, hdd⟩⟩
  · simp at h
theorem put_env {G : Tie} {en : Env} {a : Act} (he : RepEnv G en a.tmps) {dst : Option Nat} (hd : ∀ d, dst = some d → d < nt) (hsz : nt ≤ a.tmps.size) {v : V} {r : Value} (hv : RepV G v r) :
    RepEnv G (en.put dst v) (a.put dst r).tmps ∧ (a.put dst r).tmps.size = a.tmps.size ∧ (a.put dst r).defers = a.defers := by
  cases dst with
  | none => exact ⟨he, rfl, rfl⟩
  | some d => exact ⟨he.put (Nat.lt_of_lt_of_le (hd d rfl) hsz) hv, by simp [Act.put], rfl⟩
def Serves (P : Program) (gl : Nat → Option (List V)) (nt : Nat) (all : List Oper) (o : Oper) (ao : AOper) : Prop :=
  ∃ b, compOper P gl nt all o = some b ∧ Stands ao b
theorem one_wp (hc : CallOk P gl call) {ops : Array Oper} {Q : Exit → Act → World → Prop} {K : Act → World → Prop} {i : Nat} {o : Oper} {ao : AOper} {G : Tie} {en : Env} {h h' : Heap} {a : Act} {w : World} {v : V}
    (ho : ops[i]? = some o) (hser : Serves P gl nt ops.toList o ao) (hgl : GlobOk G gl) (he : RepEnv G en a.tmps) (R : Rel G h w) (hb : base ≤ h.length) (hsz : nt ≤ a.tmps.size) (hs : evVal call base ao en h = some (v, h'))
    (hK : ∀ a' w' G', Reach G w h' w' G' → base ≤ h'.length → RepEnv G' (en.put ao.dst v) a'.tmps → a'.tmps.size = a.tmps.size → a'.defers = a.defers → K a' w') : wpOp P ops Q i K a w := by
  obtain ⟨b, hco, hab⟩ := hser
  have hs' : evVal call base b en h = some (v, h') := hab.val hs
  have hdst' : ao.dst = b.dst := hab.1
  rw [hdst'] at hK
  clear hs hab hdst'
  obtain ⟨_, hdst, hdlt, hguard⟩ := compOper_inv hco
  rw [hdst] at hK
  unfold wpOp
  simp only [ho]
  have key : evOper call base en h b = some (v, h') → o.wp P a w K Q := by
    intro e1
    refine oper_wp hc hgl he R hb hco e1 fun r w' G' hreach hv => ?_
    obtain ⟨p1, p2, p3⟩ := put_env (he.ext hreach.ext) hdlt hsz hv
    exact hK _ _ G' hreach (Nat.le_trans hb (evOper_grow hc hb e1).1) p1 p2 p3
  unfold evVal at hs'
  split at hs'
  · rename_i hg
    have hw : Region.wanted o (yielded ops a.tmps) = true := by
      rcases hguard with ⟨h1, _⟩ | ⟨j, want, d, _, h2, _⟩
      · unfold Region.wanted; rw [h1]
      · rw [h2] at hg; simp at hg
    rw [if_pos hw]
    exact .inl (key hs')
  · rename_i g want hg
    rcases hguard with ⟨_, h2⟩ | ⟨j, want', d, h1, h2, hd⟩
    · rw [h2] at hg; simp at hg
    · rw [h2] at hg
      injection hg with hg
      simp only [Prod.mk.injEq] at hg
      obtain ⟨rfl, rfl⟩ := hg
      cases hgo : gOk (en d) want' with
      | none => rw [hgo] at hs'; simp at hs'
      | some t =>
        rw [hgo] at hs'
        have hw : Region.wanted o (yielded ops a.tmps) = t := by
          have hd' : (ops[j]?).bind (·.dst) = some d := by rw [← Array.getElem?_toList]; exact hd
          have hrep := he d
          unfold gOk at hgo
          split at hgo
          · rename_i u hu
            rw [hu] at hrep
            have hrep := hrep.sc_inv
            have hy : yielded ops a.tmps j = some u := by
              unfold yielded
              rw [hd']
              simp only [Option.bind_some]
              have hlt : d < a.tmps.size := by
                rcases Nat.lt_or_ge d a.tmps.size with hl | hl
                · exact hl
                · simp [Array.getD, show ¬ d < a.tmps.size by omega, undef] at hrep
              have : a.tmps[d]? = some (.bool u) := by
                rw [Array.getElem?_eq_getElem hlt]
                simpa [Array.getD, hlt] using hrep
              rw [this]
            unfold Region.wanted
            rw [h1]
            simp only [hy]
            injection hgo with hgo
          · rename_i hu
            rw [hu] at hrep
            simp only [RepV, RepL] at hrep
            obtain ⟨rs, hr, hrs⟩ := hrep
            have hy : yielded ops a.tmps j = none := by
              unfold yielded
              rw [hd']
              simp only [Option.bind_some]
              cases ht : a.tmps[d]? with
              | none => rfl
              | some x =>
                have : a.tmps.getD d undef = x := by simp [Array.getD_eq_getD_getElem?, ht]
                rw [this] at hr
                rw [hr]
            unfold Region.wanted
            rw [h1]
            simp only [hy]
            injection hgo with hgo
          · simp at hgo
        rw [hw]
        cases t with
        | true =>
          rw [if_pos rfl]
          exact .inl (key hs')
        | false =>
          rw [if_neg (by simp)]
          simp only [Option.some.injEq, Prod.mk.injEq] at hs'
          obtain ⟨rfl, rfl⟩ := hs'
          obtain ⟨p1, p2, p3⟩ := put_env (a := a) he hdlt hsz (v := .tup []) (r := undef) (by simp only [RepV]; exact ⟨#[], rfl, by simp [RepL]⟩)
          exact hK _ _ G (Reach.refl R) hb p1 p2 p3
theorem ops_wp (hc : CallOk P gl call) {ops : Array Oper} {Q : Exit → Act → World → Prop} : ∀ {l : List Nat} {aops : List AOper} {G : Tie} {en en' : Env} {h h' : Heap} {a : Act} {w : World},
    All2 (fun i ao => ∃ o, ops[i]? = some o ∧ Serves P gl nt ops.toList o ao) l aops →
    GlobOk G gl → RepEnv G en a.tmps → Rel G h w → base ≤ h.length → nt ≤ a.tmps.size → evOps call base aops en h = some (en', h') →
    (∀ a' w' G', Reach G w h' w' G' → RepEnv G' en' a'.tmps → a'.tmps.size = a.tmps.size → a'.defers = a.defers → Q .normal a' w') → wpOps P ops Q l a w
  | [], aops, G, en, en', h, h', a, w, hall, hgl, he, R, hb, hsz, hs, hQ => by
    simp only [All2] at hall
    subst hall
    simp only [evOps, Option.some.injEq, Prod.mk.injEq] at hs
    obtain ⟨rfl, rfl⟩ := hs
    exact hQ a w G (Reach.refl R) he rfl rfl
  | i :: l, aops, G, en, en', h, h', a, w, hall, hgl, he, R, hb, hsz, hs, hQ => by
    simp only [All2] at hall
    obtain ⟨ao, aops, rfl, ⟨o, ho, hser⟩, hall⟩ := hall
    rw [evOps_cons, Option.bind_eq_some_iff] at hs
    obtain ⟨⟨v, h1⟩, e1, e2⟩ := hs
    rw [wpOps_cons]
    refine one_wp hc ho hser hgl he R hb hsz e1 fun a' w' G' hreach hb' he' q1 q2 => ?_
    refine ops_wp hc hall (hgl.ext hreach.ext) he' hreach.rel hb' (by omega) e2 fun a'' w'' G'' hreach' he'' r1 r2 => ?_
    exact hQ a'' w'' G'' (hreach.trans hreach') he'' (r1.trans q1) (r2.trans q2)
theorem depB_listed {ops : Array Oper} {listed : Array Bool} (down : ∀ (i : Nat) (o : Oper), ops[i]? = some o → listed.getD i false = true → ∀ e ∈ o.after, Region.binds .any e = true → listed.getD e.on false = true) :
    ∀ (k i x : Nat) (o : Oper), ops[i]? = some o → (∀ e ∈ o.after, Region.binds .any e = true → listed.getD e.on false = true) → depB ops.toList k i x = true → listed.getD x false = true
  | 0, _, _, _, _, _, hd => by simp [depB] at hd
  | k + 1, i, x, o, ho, hl, hd => by
    have ho' : ops.toList[i]? = some o := by rw [Array.getElem?_toList]; exact ho
    simp only [depB, ho', List.any_eq_true, Bool.and_eq_true, Bool.or_eq_true, beq_iff_eq, Array.mem_toList_iff] at hd
    obtain ⟨e, hm, hb, he⟩ := hd
    rcases he with rfl | he
    · exact hl e hm hb
    · have hon := hl e hm hb
      cases hoe : ops[e.on]? with
      | none =>
        have : ops.toList[e.on]? = none := by rw [Array.getElem?_toList]; exact hoe
        cases k with
        | zero => simp [depB] at he
        | succ k => simp [depB, this] at he
      | some oe => exact depB_listed down k e.on x oe hoe (fun e' hm' hb' => down e.on oe hoe hon e' hm' hb') he
theorem getD_true_lt {listed : Array Bool} {i : Nat} (h : listed.getD i true = false) : i < listed.size := by
  rcases Nat.lt_or_ge i listed.size with h' | h'
  · exact h'
  · simp [Array.getElem?_eq_none h'] at h
theorem least_mem : ∀ {M : List Nat}, M ≠ [] → ∃ m ∈ M, ∀ x ∈ M, m ≤ x
  | [], h => absurd rfl h
  | [m], _ => ⟨m, by simp, by simp⟩
  | m :: n :: M, _ => by
    obtain ⟨k, hk, hall⟩ := least_mem (M := n :: M) (by simp)
    by_cases h : m ≤ k
    · exact ⟨m, by simp, fun x hx => by
        rcases List.mem_cons.1 hx with rfl | hx
        · exact Nat.le_refl _
        · exact Nat.le_trans h (hall x hx)⟩
    · exact ⟨k, List.mem_cons_of_mem _ hk, fun x hx => by
        rcases List.mem_cons.1 hx with rfl | hx
        · omega
        · exact hall x hx⟩
def PairsOk (quiet : FuncId → Nat) (ops : List Oper) (f : Nat → AOper) (M : List Nat) : Prop :=
  M.Pairwise fun x i => depB ops ops.length i x = true ∨ commB quiet (f x) (f i) = true
theorem any_wp {quiet : FuncId → Nat} (hq : QuietOk quiet call) (hc : CallOk P gl call) {ops : Array Oper} {Q : Exit → Act → World → Prop} {f : Nat → AOper}
    (hf : ∀ (i : Nat) (o : Oper), ops[i]? = some o → Serves P gl nt ops.toList o (f i))
    (hback : ∀ (i : Nat) (o : Oper), ops[i]? = some o → ∀ e ∈ o.after, Region.binds .any e = true → e.on < i) :
    ∀ (fuel : Nat) (listed : Array Bool) (M : List Nat) {G : Tie} {en en' : Env} {h h' : Heap} {a : Act} {w : World},
      M.Nodup → PairsOk quiet ops.toList f M → (∀ i, i ∈ M ↔ i < ops.size ∧ listed.getD i true = false) → listed.size = ops.size → M.length ≤ fuel →
      (∀ (i : Nat) (o : Oper), ops[i]? = some o → listed.getD i false = true → ∀ e ∈ o.after, Region.binds .any e = true → listed.getD e.on false = true) →
      GlobOk G gl → RepEnv G en a.tmps → Rel G h w → base ≤ h.length → nt ≤ a.tmps.size → evOps call base (M.map f) en h = some (en', h') →
      (∀ a' w' G', Reach G w h' w' G' → RepEnv G' en' a'.tmps → a'.tmps.size = a.tmps.size → a'.defers = a.defers → Q .normal a' w') → wpAny P .any ops Q fuel listed a w := by
  intro fuel
  have done : ∀ (listed : Array Bool) (M : List Nat) {G : Tie} {en en' : Env} {h h' : Heap} {a : Act} {w : World},
      (∀ i, i ∈ M ↔ i < ops.size ∧ listed.getD i true = false) → listed.size = ops.size → 
      RepEnv G en a.tmps → Rel G h w → evOps call base (M.map f) en h = some (en', h') →
      (∀ a' w' G', Reach G w h' w' G' → RepEnv G' en' a'.tmps → a'.tmps.size = a.tmps.size → a'.defers = a.defers → Q .normal a' w') → Region.ready .any ops listed = [] → Q .normal a w := by
    intro listed M G en en' h h' a w hM hlen he R hs hQ hr
    by_cases hMn : M = []
    · subst hMn
      simp only [List.map_nil, evOps, Option.some.injEq, Prod.mk.injEq] at hs
      obtain ⟨rfl, rfl⟩ := hs
      exact hQ a w G (Reach.refl R) he rfl rfl
    · exfalso
      obtain ⟨m, hmM, hleast⟩ := least_mem hMn
      obtain ⟨hm, hml⟩ := (hM m).1 hmM
      have : m ∈ Region.ready .any ops listed := by
        rw [mem_ready]
        refine ⟨hml, ops[m], Array.getElem?_eq_getElem hm, fun e he hb => ?_⟩
        have hlt := hback m _ (Array.getElem?_eq_getElem hm) e he hb
        cases hv : listed.getD e.on false with
        | true => rfl
        | false =>
          exfalso
          have hin : e.on ∈ M := (hM e.on).2 ⟨by omega, by
            have : e.on < listed.size := by omega
            simp [this] at hv ⊢
            exact hv⟩
          have := hleast _ hin
          omega
      rw [hr] at this
      simp at this
  induction fuel with
  | zero =>
    intro listed M G en en' h h' a w hnd hp hM hlen hfuel down hgl he R hb hsz hs hQ
    have hMn : M = [] := by simpa using hfuel
    have hr : Region.ready .any ops listed = [] := by
      refine List.eq_nil_iff_forall_not_mem.2 fun i hi => ?_
      rw [mem_ready] at hi
      have := (hM i).2 ⟨by have := getD_true_lt hi.1; omega, hi.1⟩
      rw [hMn] at this
      simp at this
    exact ⟨hr, done listed M hM hlen he R hs hQ hr⟩
  | succ fuel ih =>
    intro listed M G en en' h h' a w hnd hp hM hlen hfuel down hgl he R hb hsz hs hQ
    refine ⟨done listed M hM hlen he R hs hQ, fun i hi => ?_⟩
    obtain ⟨hil, o, ho, hall⟩ := mem_ready.1 hi
    have hisz : i < ops.size := by have := getD_true_lt hil; omega
    have him := (hM i).2 ⟨hisz, hil⟩
    obtain ⟨p, r, rfl⟩ := List.append_of_mem him
    have hcm : ∀ x ∈ p.map f, commB quiet x (f i) = true := by
      intro y hy
      simp only [List.mem_map] at hy
      obtain ⟨x, hx, rfl⟩ := hy
      unfold PairsOk at hp
      rw [List.pairwise_append] at hp
      rcases hp.2.2 x hx i (by simp) with hd | hd
      · exfalso
        have h1 := depB_listed down _ _ _ o ho hall hd
        have h2 := ((hM x).1 (by simp [hx])).2
        have h3 := getD_true_lt h2
        simp [h3] at h1 h2
        rw [h1] at h2
        simp at h2
      · exact hd
    rw [List.map_append, List.map_cons] at hs
    have hs2 := front hq hcm hs
    rw [evOps_cons, Option.bind_eq_some_iff] at hs2
    obtain ⟨⟨v, h1⟩, e1, e2⟩ := hs2
    refine one_wp hc ho (hf i o ho) hgl he R hb hsz e1 fun a' w' G' hreach hb' he' q1 q2 => ?_
    have hsub : (p ++ r).Sublist (p ++ i :: r) := List.Sublist.append_left (List.sublist_cons_self i r) p
    have hni : i ∉ p ++ r := by
      have h1 := List.nodup_append.1 hnd
      have h2 := List.nodup_cons.1 h1.2.1
      intro hc
      rcases List.mem_append.1 hc with hc | hc
      · exact h1.2.2 i hc i (by simp) rfl
      · exact h2.1 hc
    rw [← List.map_append] at e2
    refine ih (listed.setIfInBounds i true) (p ++ r) (hnd.sublist hsub) (List.Pairwise.sublist hsub hp) ?_ (by simpa using hlen) (by simp at hfuel ⊢; omega) ?_ (hgl.ext hreach.ext) he' hreach.rel hb' (by omega) e2 fun a'' w'' G'' hreach' he'' r1 r2 => hQ a'' w'' G'' (hreach.trans hreach') he'' (r1.trans q1) (r2.trans q2)
    · intro x
      by_cases hx : i = x
      · subst hx
        constructor
        · intro hx; exact absurd hx hni
        · rintro ⟨_, hx⟩
          have : i < listed.size := by omega
          simp [this] at hx
      · rw [getD_set_ne true hx, ← hM x]
        simp only [List.mem_append, List.mem_cons]
        constructor
        · rintro (h1 | h1)
          · exact .inl h1
          · exact .inr (.inr h1)
        · rintro (h1 | h1 | h1)
          · exact .inl h1
          · exact absurd h1.symm hx
          · exact .inr h1
    · intro x ox hox hxl e hm hbd
      by_cases hx : i = x
      · subst hx
        rw [ho] at hox
        injection hox with hox
        subst hox
        exact getD_set_true (hall e hm hbd)
      · rw [getD_set_ne false hx] at hxl
        exact getD_set_true (down x ox hox hxl e hm hbd)
def Ex.toExit : Ex → Exit
  | .normal => .normal
  | .exit id => .exit id
  | .ret => .ret
theorem compOps_all {all : List Oper} : ∀ {ops : List Oper} {aops : List AOper} (k : Nat), compOps P gl nt all ops = some aops → (∀ j o, ops[j]? = some o → all[k + j]? = some o) →
    All2 (fun i ao => ∃ o, all[i]? = some o ∧ compOper P gl nt all o = some ao) (List.range' k ops.length) aops
  | [], aops, k, h, _ => by simp [compOps] at h; subst h; simp [All2]
  | o :: ops, aops, k, h, hk => by
    simp only [compOps, Option.bind_eq_some_iff, Option.map_eq_some_iff] at h
    obtain ⟨ao, h1, r, h2, rfl⟩ := h
    simp only [List.length_cons, List.range'_succ, All2]
    refine ⟨ao, r, rfl, ⟨o, by simpa using hk 0 o (by simp), h1⟩, compOps_all (k + 1) h2 fun j o' hj => ?_⟩
    have := hk (j + 1) o' (by simpa using hj)
    rwa [show k + (j + 1) = k + 1 + j by omega] at this
def CodeOk (P : Program) (gl : Nat → Option (List V)) (base nt : Nat) (c : Code) (f : Env → Heap → Option (Ex × Env × Heap)) : Prop :=
  ∀ {G en en' h h' a w ex} {Q : Exit → Act → World → Prop}, GlobOk G gl → RepEnv G en a.tmps → Rel G h w → base ≤ h.length → nt ≤ a.tmps.size → f en h = some (ex, en', h') →
    (∀ a' w' G', Reach G w h' w' G' → RepEnv G' en' a'.tmps → a'.tmps.size = a.tmps.size → a'.defers = a.defers → Q ex.toExit a' w') → c.wp P Q a w
theorem iter_wp {c : Code} {f : Env → Heap → Option (Ex × Env × Heap)} {Q : Exit → Act → World → Prop} (hf : CodeOk P gl base nt c f)
    (hgrow : ∀ en h ex en' h', base ≤ h.length → f en h = some (ex, en', h') → Grow base h h') :
    ∀ (k : Nat) {G : Tie} {en en' : Env} {h h' : Heap} {a : Act} {w : World} {ex : Ex}, GlobOk G gl → RepEnv G en a.tmps → Rel G h w → base ≤ h.length → nt ≤ a.tmps.size → iter f k en h = some (ex, en', h') →
      (∀ a' w' G', Reach G w h' w' G' → RepEnv G' en' a'.tmps → a'.tmps.size = a.tmps.size → a'.defers = a.defers → Q ex.toExit a' w') → Code.rounds P c Q k a w
  | 0, _, _, _, _, _, _, _, _, _, _, _, _, _, hs, _ => by simp [iter] at hs
  | k + 1, G, en, en', h, h', a, w, ex, hgl, he, R, hb, hsz, hs, hQ => by
    rw [rounds_succ]
    unfold iter at hs
    split at hs
    · rename_i en1 h1 e1
      refine hf hgl he R hb hsz e1 fun a' w' G' hreach he' q1 q2 => ?_
      refine iter_wp hf hgrow k (hgl.ext hreach.ext) he' hreach.rel (Nat.le_trans hb (hgrow _ _ _ _ _ hb e1).1) (by omega) hs fun a'' w'' G'' hreach' he'' r1 r2 => ?_
      exact hQ a'' w'' G'' (hreach.trans hreach') he'' (r1.trans q1) (r2.trans q2)
    · rename_i hno
      refine hf hgl he R hb hsz hs fun a' w' G' hreach he' q1 q2 => ?_
      have := hQ a' w' G' hreach he' q1 q2
      cases ex with
      | normal => exact absurd hs (hno en' h')
      | exit id => exact this
      | ret => exact this
theorem All2.mono {α β : Type} {R S : α → β → Prop} (h : ∀ a b, R a b → S a b) : ∀ {as : List α} {bs : List β}, All2 R as bs → All2 S as bs
  | [], _, e => e
  | _ :: _, _, ⟨b, rest, e, r, t⟩ => ⟨b, rest, e, h _ _ r, All2.mono h t⟩
theorem All2.map_right {α β γ : Type} {R : α → γ → Prop} (f : β → γ) : ∀ {as : List α} {bs : List β}, All2 (fun a b => R a (f b)) as bs → All2 R as (bs.map f)
  | [], bs, h => by simp only [All2] at h; subst h; simp [All2]
  | a :: as, bs, h => by
    simp only [All2] at h
    obtain ⟨b, r, rfl, h1, h2⟩ := h
    simp only [List.map_cons, All2]
    exact ⟨_, _, rfl, h1, All2.map_right f h2⟩
theorem All2.length {α β : Type} {R : α → β → Prop} : ∀ {as : List α} {bs : List β}, All2 R as bs → bs.length = as.length
  | [], _, e => by simp only [All2] at e; subst e; rfl
  | _ :: _, _, ⟨b, rest, e, r, t⟩ => by subst e; simp [All2.length t]
theorem All2.get {α β : Type} {R : α → β → Prop} : ∀ {as : List α} {bs : List β}, All2 R as bs → ∀ (i : Nat) (a : α), as[i]? = some a → ∃ b, bs[i]? = some b ∧ R a b
  | [], _, _, i, a, h => by simp at h
  | x :: as, _, ⟨b, rest, e, r, t⟩, 0, a, h => by
    simp only [List.getElem?_cons_zero, Option.some.injEq] at h
    subst h
    exact ⟨b, by simp [e], r⟩
  | x :: as, _, ⟨b, rest, e, r, t⟩, i + 1, a, h => by
    simp only [List.getElem?_cons_succ] at h
    obtain ⟨b', h1, h2⟩ := All2.get t i a h
    exact ⟨b', by simp [e, h1], h2⟩
theorem okPairs_spec {quiet : FuncId → Nat} {ops : List Oper} {l : List AOper} : ∀ {pi : List Nat}, okPairs quiet ops l pi = true → PairsOk quiet ops (fun i => l.getD i default) pi
  | [], _ => List.Pairwise.nil
  | x :: r, h => by
    simp only [okPairs, Bool.and_eq_true, List.all_eq_true, Bool.or_eq_true] at h
    refine List.Pairwise.cons (fun i hi => ?_) (okPairs_spec h.2)
    rcases h.1 i hi with h1 | h1
    · exact .inl h1
    · right
      cases hx : l[x]? with
      | none => rw [hx] at h1; simp at h1
      | some a =>
        cases hi : l[i]? with
        | none => rw [hx, hi] at h1; simp at h1
        | some b =>
          rw [hx, hi] at h1
          simpa [List.getD, hx, hi] using h1
theorem nodupB_spec : ∀ {pi : List Nat}, nodupB pi = true → pi.Nodup
  | [], _ => List.nodup_nil
  | x :: r, h => by
    simp only [nodupB, Bool.and_eq_true, Bool.not_eq_true'] at h
    exact List.nodup_cons.2 ⟨by simpa using h.1, nodupB_spec h.2⟩
end
end
end Go.Am
