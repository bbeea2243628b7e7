import Derived.Test.YtpjdfeplfbmgpaaDoorAmTry4
set_option linter.unusedSimpArgs false
namespace Go.Am
/-- spinnaker/spinnakerref46.Same -/
def a12 : AFunc :=
  { nparams := 2, ntmps := 27, pure := true, results := [.tmp 4],
    body := (.seq (.region [⟨(some 4), .mv (.val (.sc (.bool false))), none, []⟩])
    (.seq (.seq (.region [⟨(some 6), .mv (.tmp 0), none, []⟩,
      ⟨(some 7), .len (.tmp 6), none, []⟩,
      ⟨(some 8), .mv (.tmp 1), none, []⟩,
      ⟨(some 9), .len (.tmp 8), none, []⟩,
      ⟨(some 10), .bin .neq (.tmp 7) (.tmp 9), none, []⟩])
    (.cond (.tmp 10)
      (.seq (.region [⟨(some 4), .mv (.val (.sc (.bool false))), none, []⟩])
      .ret)
      .skip))
    (.seq (.seq (.region [⟨(some 5), .mv (.val (.sc (.int .i64 (0)))), none, []⟩])
    (.block 0 (.loop (.seq (.seq (.region [⟨(some 11), .mv (.tmp 5), none, []⟩,
          ⟨(some 12), .mv (.tmp 0), none, []⟩,
          ⟨(some 13), .len (.tmp 12), none, []⟩,
          ⟨(some 14), .bin .lss (.tmp 11) (.tmp 13), none, []⟩])
        (.cond (.tmp 14)
          .skip
          (.exit 0)))
        (.seq (.block 1 (.seq (.region [⟨(some 17), .mv (.tmp 0), none, []⟩,
            ⟨(some 18), .mv (.tmp 5), none, []⟩,
            ⟨(some 19), .indexS 1 (.tmp 17) (.tmp 18), none, []⟩,
            ⟨(some 20), .load none (.tmp 19), none, []⟩,
            ⟨(some 21), .mv (.tmp 1), none, []⟩,
            ⟨(some 22), .mv (.tmp 5), none, []⟩,
            ⟨(some 23), .indexS 1 (.tmp 21) (.tmp 22), none, []⟩,
            ⟨(some 24), .load none (.tmp 23), none, []⟩,
            ⟨(some 25), .call (.val (.fn (.func 31) [] [])) [(.tmp 20), (.tmp 24)], none, []⟩,
            ⟨(some 26), .un .not (.tmp 25), none, []⟩])
          (.cond (.tmp 26)
            (.seq (.region [⟨(some 4), .mv (.val (.sc (.bool false))), none, []⟩])
            .ret)
            .skip)))
        (.region [⟨(some 15), .mv (.tmp 5), none, []⟩,
          ⟨(some 16), .bin .add (.tmp 15) (.val (.sc (.int .i64 (1)))), none, []⟩,
          ⟨(some 5), .mv (.tmp 16), none, []⟩]))))))
    (.seq (.region [⟨(some 4), .mv (.val (.sc (.bool true))), none, []⟩])
    .ret)))) }


theorem refSame_spec {S : Fns} {base : Nat} {f : FuncId} (hX : S.X f = none) (hF : S.F f = some a12) (hX31 : S.X 31 = none) (hF31 : S.F 31 = some a31)
    (xs ys : List (List Int)) (ex ey : Cp) (h : Heap) (hx : xs.length < 2 ^ 63) (hl : ∀ a ∈ xs, a.length < 2 ^ 63) :
    WpF S base f [.slc ex 1 (xs.map rv), .slc ey 1 (ys.map rv)] h fun v h' => v = .bool (xs.length == ys.length && (xs.zip ys).all fun q => decide (q.1 = q.2)) ∧ h' = h := by
  refine WpF.bodyPure hX hF rfl rfl ?_
  simp only [a12]
  refine WpC.seq (WpC.region ?_)
  try simp only [WpO_op, WpO_nil, WpO_call, WpO_guard, step, okQ_some, Opd.get, put_app, put_none, thenQ, ne_eq, reduceCtorEq, not_false_eq_true, implies_true, slcLen, Option.map_some, Option.bind_some, bin, binInt, boolQ_bool, reduceIte, Nat.reduceEqDiff, List.getD_cons_zero, List.getD_cons_succ, IntKind.signed, indexV, asNat?, loadV, cutCells, unary, evRess, evRes1, oneOrTup, freezeV, blockQ, wrapV, target, getsO, callQ_some, List.nil_append, List.append_nil, List.cons_append]
  refine WpC.seq (WpC.seq (WpC.region ?_))
  try simp only [WpO_op, WpO_nil, WpO_call, WpO_guard, step, okQ_some, Opd.get, put_app, put_none, thenQ, ne_eq, reduceCtorEq, not_false_eq_true, implies_true, slcLen, Option.map_some, Option.bind_some, bin, binInt, boolQ_bool, reduceIte, Nat.reduceEqDiff, List.getD_cons_zero, List.getD_cons_succ, IntKind.signed, indexV, asNat?, loadV, cutCells, unary, evRess, evRes1, oneOrTup, freezeV, blockQ, wrapV, target, getsO, callQ_some, List.nil_append, List.append_nil, List.cons_append]
  refine WpC_cond ?_
  try simp only [WpO_op, WpO_nil, WpO_call, WpO_guard, step, okQ_some, Opd.get, put_app, put_none, thenQ, ne_eq, reduceCtorEq, not_false_eq_true, implies_true, slcLen, Option.map_some, Option.bind_some, bin, binInt, boolQ_bool, reduceIte, Nat.reduceEqDiff, List.getD_cons_zero, List.getD_cons_succ, IntKind.signed, indexV, asNat?, loadV, cutCells, unary, evRess, evRes1, oneOrTup, freezeV, blockQ, wrapV, target, getsO, callQ_some, List.nil_append, List.append_nil, List.cons_append]
  split
  · rename_i hne
    refine WpC.seq (WpC.region ?_)
    try simp only [WpO_op, WpO_nil, WpO_call, WpO_guard, step, okQ_some, Opd.get, put_app, put_none, thenQ, ne_eq, reduceCtorEq, not_false_eq_true, implies_true, slcLen, Option.map_some, Option.bind_some, bin, binInt, boolQ_bool, reduceIte, Nat.reduceEqDiff, List.getD_cons_zero, List.getD_cons_succ, IntKind.signed, indexV, asNat?, loadV, cutCells, unary, evRess, evRes1, oneOrTup, freezeV, blockQ, wrapV, target, getsO, callQ_some, List.nil_append, List.append_nil, List.cons_append]
    refine WpC.ret ?_
    try simp only [WpO_op, WpO_nil, WpO_call, WpO_guard, step, okQ_some, Opd.get, put_app, put_none, thenQ, ne_eq, reduceCtorEq, not_false_eq_true, implies_true, slcLen, Option.map_some, Option.bind_some, bin, binInt, boolQ_bool, reduceIte, Nat.reduceEqDiff, List.getD_cons_zero, List.getD_cons_succ, IntKind.signed, indexV, asNat?, loadV, cutCells, unary, evRess, evRes1, oneOrTup, freezeV, blockQ, wrapV, target, getsO, callQ_some, List.nil_append, List.append_nil, List.cons_append]
    refine ⟨by simp, _, rfl, 1, _, rfl, ?_, by simp⟩
    have : xs.length ≠ ys.length := by simp at hne; omega
    simp [this]
  · rename_i hlen
    have hlen : xs.length = ys.length := by simp at hlen; omega
    refine WpC.skip ?_
    try simp only [WpO_op, WpO_nil, WpO_call, WpO_guard, step, okQ_some, Opd.get, put_app, put_none, thenQ, ne_eq, reduceCtorEq, not_false_eq_true, implies_true, slcLen, Option.map_some, Option.bind_some, bin, binInt, boolQ_bool, reduceIte, Nat.reduceEqDiff, List.getD_cons_zero, List.getD_cons_succ, IntKind.signed, indexV, asNat?, loadV, cutCells, unary, evRess, evRes1, oneOrTup, freezeV, blockQ, wrapV, target, getsO, callQ_some, List.nil_append, List.append_nil, List.cons_append]
    refine WpC.seq (WpC.seq (WpC.region ?_))
    try simp only [WpO_op, WpO_nil, WpO_call, WpO_guard, step, okQ_some, Opd.get, put_app, put_none, thenQ, ne_eq, reduceCtorEq, not_false_eq_true, implies_true, slcLen, Option.map_some, Option.bind_some, bin, binInt, boolQ_bool, reduceIte, Nat.reduceEqDiff, List.getD_cons_zero, List.getD_cons_succ, IntKind.signed, indexV, asNat?, loadV, cutCells, unary, evRess, evRes1, oneOrTup, freezeV, blockQ, wrapV, target, getsO, callQ_some, List.nil_append, List.append_nil, List.cons_append]
    refine WpC.block ?_
    refine WpC.loopInv (fun k en h' => ∃ i : Nat, k = xs.length - i ∧ i ≤ xs.length ∧ (∀ (j : Nat) a b, j < i → xs[j]? = some a → ys[j]? = some b → a = b) ∧ en 5 = V.int i ∧ en 0 = .slc ex 1 (xs.map rv) ∧ en 1 = .slc ey 1 (ys.map rv) ∧ h' = h) ?_ _ _ _ ⟨0, rfl, by omega, by simp, by simp only [WpO_op, WpO_nil, WpO_call, WpO_guard, step, okQ_some, Opd.get, put_app, put_none, thenQ, ne_eq, reduceCtorEq, not_false_eq_true, implies_true, slcLen, Option.map_some, Option.bind_some, bin, binInt, boolQ_bool, reduceIte, Nat.reduceEqDiff, List.getD_cons_zero, List.getD_cons_succ, IntKind.signed, indexV, asNat?, loadV, cutCells, unary, evRess, evRes1, oneOrTup, freezeV, blockQ, wrapV, target, getsO, callQ_some, List.nil_append, List.append_nil, List.cons_append]; rfl, by simp only [WpO_op, WpO_nil, WpO_call, WpO_guard, step, okQ_some, Opd.get, put_app, put_none, thenQ, ne_eq, reduceCtorEq, not_false_eq_true, implies_true, slcLen, Option.map_some, Option.bind_some, bin, binInt, boolQ_bool, reduceIte, Nat.reduceEqDiff, List.getD_cons_zero, List.getD_cons_succ, IntKind.signed, indexV, asNat?, loadV, cutCells, unary, evRess, evRes1, oneOrTup, freezeV, blockQ, wrapV, target, getsO, callQ_some, List.nil_append, List.append_nil, List.cons_append], by simp only [WpO_op, WpO_nil, WpO_call, WpO_guard, step, okQ_some, Opd.get, put_app, put_none, thenQ, ne_eq, reduceCtorEq, not_false_eq_true, implies_true, slcLen, Option.map_some, Option.bind_some, bin, binInt, boolQ_bool, reduceIte, Nat.reduceEqDiff, List.getD_cons_zero, List.getD_cons_succ, IntKind.signed, indexV, asNat?, loadV, cutCells, unary, evRess, evRes1, oneOrTup, freezeV, blockQ, wrapV, target, getsO, callQ_some, List.nil_append, List.append_nil, List.cons_append], rfl⟩
    rintro k en h' ⟨i, rfl, hi, hall, e5, e0, e1, rfl⟩
    refine WpC.seq (WpC.seq (WpC.region ?_))
    try simp only [WpO_op, WpO_nil, WpO_call, WpO_guard, step, okQ_some, Opd.get, put_app, put_none, thenQ, ne_eq, reduceCtorEq, not_false_eq_true, implies_true, slcLen, Option.map_some, Option.bind_some, bin, binInt, boolQ_bool, reduceIte, Nat.reduceEqDiff, List.getD_cons_zero, List.getD_cons_succ, IntKind.signed, indexV, asNat?, loadV, cutCells, unary, evRess, evRes1, oneOrTup, freezeV, blockQ, wrapV, target, getsO, callQ_some, List.nil_append, List.append_nil, List.cons_append]
    simp only [e0, e1, e5]
    try simp only [WpO_op, WpO_nil, WpO_call, WpO_guard, step, okQ_some, Opd.get, put_app, put_none, thenQ, ne_eq, reduceCtorEq, not_false_eq_true, implies_true, slcLen, Option.map_some, Option.bind_some, bin, binInt, boolQ_bool, reduceIte, Nat.reduceEqDiff, List.getD_cons_zero, List.getD_cons_succ, IntKind.signed, indexV, asNat?, loadV, cutCells, unary, evRess, evRes1, oneOrTup, freezeV, blockQ, wrapV, target, getsO, callQ_some, List.nil_append, List.append_nil, List.cons_append]
    refine WpC_cond ?_
    try simp only [WpO_op, WpO_nil, WpO_call, WpO_guard, step, okQ_some, Opd.get, put_app, put_none, thenQ, ne_eq, reduceCtorEq, not_false_eq_true, implies_true, slcLen, Option.map_some, Option.bind_some, bin, binInt, boolQ_bool, reduceIte, Nat.reduceEqDiff, List.getD_cons_zero, List.getD_cons_succ, IntKind.signed, indexV, asNat?, loadV, cutCells, unary, evRess, evRes1, oneOrTup, freezeV, blockQ, wrapV, target, getsO, callQ_some, List.nil_append, List.append_nil, List.cons_append]
    split
    · rename_i hlt
      have hlt : i < xs.length := by simp at hlt; omega
      have hlt2 : i < ys.length := by omega
      refine WpC.skip ?_
      try simp only [WpO_op, WpO_nil, WpO_call, WpO_guard, step, okQ_some, Opd.get, put_app, put_none, thenQ, ne_eq, reduceCtorEq, not_false_eq_true, implies_true, slcLen, Option.map_some, Option.bind_some, bin, binInt, boolQ_bool, reduceIte, Nat.reduceEqDiff, List.getD_cons_zero, List.getD_cons_succ, IntKind.signed, indexV, asNat?, loadV, cutCells, unary, evRess, evRes1, oneOrTup, freezeV, blockQ, wrapV, target, getsO, callQ_some, List.nil_append, List.append_nil, List.cons_append]
      refine WpC.seq (WpC.block (WpC.seq (WpC.region ?_)))
      try simp only [WpO_op, WpO_nil, WpO_call, WpO_guard, step, okQ_some, Opd.get, put_app, put_none, thenQ, ne_eq, reduceCtorEq, not_false_eq_true, implies_true, slcLen, Option.map_some, Option.bind_some, bin, binInt, boolQ_bool, reduceIte, Nat.reduceEqDiff, List.getD_cons_zero, List.getD_cons_succ, IntKind.signed, indexV, asNat?, loadV, cutCells, unary, evRess, evRes1, oneOrTup, freezeV, blockQ, wrapV, target, getsO, callQ_some, List.nil_append, List.append_nil, List.cons_append]
      simp only [e0, e1, e5]
      try simp only [WpO_op, WpO_nil, WpO_call, WpO_guard, step, okQ_some, Opd.get, put_app, put_none, thenQ, ne_eq, reduceCtorEq, not_false_eq_true, implies_true, slcLen, Option.map_some, Option.bind_some, bin, binInt, boolQ_bool, reduceIte, Nat.reduceEqDiff, List.getD_cons_zero, List.getD_cons_succ, IntKind.signed, indexV, asNat?, loadV, cutCells, unary, evRess, evRes1, oneOrTup, freezeV, blockQ, wrapV, target, getsO, callQ_some, List.nil_append, List.append_nil, List.cons_append]
      try simp only [Int.natCast_nonneg, if_true, Int.toNat_natCast, Option.bind_some, List.getElem?_map, List.getElem?_eq_getElem hlt, List.getElem?_eq_getElem hlt2, Option.map_some, okQ_some, List.getElem?_cons_zero, if_pos]
      try simp only [WpO_op, WpO_nil, WpO_call, WpO_guard, step, okQ_some, Opd.get, put_app, put_none, thenQ, ne_eq, reduceCtorEq, not_false_eq_true, implies_true, slcLen, Option.map_some, Option.bind_some, bin, binInt, boolQ_bool, reduceIte, Nat.reduceEqDiff, List.getD_cons_zero, List.getD_cons_succ, IntKind.signed, indexV, asNat?, loadV, cutCells, unary, evRess, evRes1, oneOrTup, freezeV, blockQ, wrapV, target, getsO, callQ_some, List.nil_append, List.append_nil, List.cons_append]
      refine (ints_spec hX31 hF31 xs[i] ys[i] .any .any h' (hl _ (List.getElem_mem hlt))).mono ?_
      rintro v h2 ⟨rfl, rfl⟩
      try simp only [WpO_op, WpO_nil, WpO_call, WpO_guard, step, okQ_some, Opd.get, put_app, put_none, thenQ, ne_eq, reduceCtorEq, not_false_eq_true, implies_true, slcLen, Option.map_some, Option.bind_some, bin, binInt, boolQ_bool, reduceIte, Nat.reduceEqDiff, List.getD_cons_zero, List.getD_cons_succ, IntKind.signed, indexV, asNat?, loadV, cutCells, unary, evRess, evRes1, oneOrTup, freezeV, blockQ, wrapV, target, getsO, callQ_some, List.nil_append, List.append_nil, List.cons_append]
      refine WpC_cond ?_
      try simp only [WpO_op, WpO_nil, WpO_call, WpO_guard, step, okQ_some, Opd.get, put_app, put_none, thenQ, ne_eq, reduceCtorEq, not_false_eq_true, implies_true, slcLen, Option.map_some, Option.bind_some, bin, binInt, boolQ_bool, reduceIte, Nat.reduceEqDiff, List.getD_cons_zero, List.getD_cons_succ, IntKind.signed, indexV, asNat?, loadV, cutCells, unary, evRess, evRes1, oneOrTup, freezeV, blockQ, wrapV, target, getsO, callQ_some, List.nil_append, List.append_nil, List.cons_append]
      split
      · rename_i hne
        refine WpC.seq (WpC.region ?_)
        try simp only [WpO_op, WpO_nil, WpO_call, WpO_guard, step, okQ_some, Opd.get, put_app, put_none, thenQ, ne_eq, reduceCtorEq, not_false_eq_true, implies_true, slcLen, Option.map_some, Option.bind_some, bin, binInt, boolQ_bool, reduceIte, Nat.reduceEqDiff, List.getD_cons_zero, List.getD_cons_succ, IntKind.signed, indexV, asNat?, loadV, cutCells, unary, evRess, evRes1, oneOrTup, freezeV, blockQ, wrapV, target, getsO, callQ_some, List.nil_append, List.append_nil, List.cons_append]
        refine WpC.ret ?_
        try simp only [WpO_op, WpO_nil, WpO_call, WpO_guard, step, okQ_some, Opd.get, put_app, put_none, thenQ, ne_eq, reduceCtorEq, not_false_eq_true, implies_true, slcLen, Option.map_some, Option.bind_some, bin, binInt, boolQ_bool, reduceIte, Nat.reduceEqDiff, List.getD_cons_zero, List.getD_cons_succ, IntKind.signed, indexV, asNat?, loadV, cutCells, unary, evRess, evRes1, oneOrTup, freezeV, blockQ, wrapV, target, getsO, callQ_some, List.nil_append, List.append_nil, List.cons_append]
        refine ⟨by simp, _, rfl, 1, _, rfl, ?_, by simp⟩
        have : ((xs.zip ys).all fun q => decide (q.1 = q.2)) = false := by
          rw [List.all_eq_false]
          refine ⟨(xs[i], ys[i]), List.mem_of_getElem? (i := i) (by simp [hlt, hlt2, List.getElem?_zip_eq_some]), ?_⟩
          simpa using hne
        simp [this]
      · rename_i heq
        refine WpC.skip ?_
        try simp only [WpO_op, WpO_nil, WpO_call, WpO_guard, step, okQ_some, Opd.get, put_app, put_none, thenQ, ne_eq, reduceCtorEq, not_false_eq_true, implies_true, slcLen, Option.map_some, Option.bind_some, bin, binInt, boolQ_bool, reduceIte, Nat.reduceEqDiff, List.getD_cons_zero, List.getD_cons_succ, IntKind.signed, indexV, asNat?, loadV, cutCells, unary, evRess, evRes1, oneOrTup, freezeV, blockQ, wrapV, target, getsO, callQ_some, List.nil_append, List.append_nil, List.cons_append]
        refine WpC.region ?_
        try simp only [WpO_op, WpO_nil, WpO_call, WpO_guard, step, okQ_some, Opd.get, put_app, put_none, thenQ, ne_eq, reduceCtorEq, not_false_eq_true, implies_true, slcLen, Option.map_some, Option.bind_some, bin, binInt, boolQ_bool, reduceIte, Nat.reduceEqDiff, List.getD_cons_zero, List.getD_cons_succ, IntKind.signed, indexV, asNat?, loadV, cutCells, unary, evRess, evRes1, oneOrTup, freezeV, blockQ, wrapV, target, getsO, callQ_some, List.nil_append, List.append_nil, List.cons_append]
        simp only [e5]
        try simp only [WpO_op, WpO_nil, WpO_call, WpO_guard, step, okQ_some, Opd.get, put_app, put_none, thenQ, ne_eq, reduceCtorEq, not_false_eq_true, implies_true, slcLen, Option.map_some, Option.bind_some, bin, binInt, boolQ_bool, reduceIte, Nat.reduceEqDiff, List.getD_cons_zero, List.getD_cons_succ, IntKind.signed, indexV, asNat?, loadV, cutCells, unary, evRess, evRes1, oneOrTup, freezeV, blockQ, wrapV, target, getsO, callQ_some, List.nil_append, List.append_nil, List.cons_append]
        refine ⟨xs.length - (i + 1), by omega, i + 1, rfl, by omega, ?_, ?_, e0, e1, trivial⟩
        · intro j a b hj ha hb
          rcases Nat.lt_or_ge j i with hj' | hj'
          · exact hall j a b hj' ha hb
          · have : j = i := by omega
            subst this
            simp [hlt] at ha
            simp [hlt2] at hb
            subst ha; subst hb
            simpa using heq
        · rw [wrap_i64 (by omega) (by omega)]
          rfl
    · rename_i hge
      have hge : xs.length ≤ i := by simp at hge; omega
      refine WpC.exit ?_
      try simp only [WpO_op, WpO_nil, WpO_call, WpO_guard, step, okQ_some, Opd.get, put_app, put_none, thenQ, ne_eq, reduceCtorEq, not_false_eq_true, implies_true, slcLen, Option.map_some, Option.bind_some, bin, binInt, boolQ_bool, reduceIte, Nat.reduceEqDiff, List.getD_cons_zero, List.getD_cons_succ, IntKind.signed, indexV, asNat?, loadV, cutCells, unary, evRess, evRes1, oneOrTup, freezeV, blockQ, wrapV, target, getsO, callQ_some, List.nil_append, List.append_nil, List.cons_append]
      refine WpC.seq (WpC.region ?_)
      try simp only [WpO_op, WpO_nil, WpO_call, WpO_guard, step, okQ_some, Opd.get, put_app, put_none, thenQ, ne_eq, reduceCtorEq, not_false_eq_true, implies_true, slcLen, Option.map_some, Option.bind_some, bin, binInt, boolQ_bool, reduceIte, Nat.reduceEqDiff, List.getD_cons_zero, List.getD_cons_succ, IntKind.signed, indexV, asNat?, loadV, cutCells, unary, evRess, evRes1, oneOrTup, freezeV, blockQ, wrapV, target, getsO, callQ_some, List.nil_append, List.append_nil, List.cons_append]
      refine WpC.ret ?_
      try simp only [WpO_op, WpO_nil, WpO_call, WpO_guard, step, okQ_some, Opd.get, put_app, put_none, thenQ, ne_eq, reduceCtorEq, not_false_eq_true, implies_true, slcLen, Option.map_some, Option.bind_some, bin, binInt, boolQ_bool, reduceIte, Nat.reduceEqDiff, List.getD_cons_zero, List.getD_cons_succ, IntKind.signed, indexV, asNat?, loadV, cutCells, unary, evRess, evRes1, oneOrTup, freezeV, blockQ, wrapV, target, getsO, callQ_some, List.nil_append, List.append_nil, List.cons_append]
      refine ⟨by simp, _, rfl, 1, _, rfl, ?_, by simp⟩
      have : ((xs.zip ys).all fun q => decide (q.1 = q.2)) = true := by
        rw [List.all_eq_true]
        intro q hq
        obtain ⟨j, hj⟩ := List.getElem?_of_mem hq
        rw [List.getElem?_zip_eq_some] at hj
        simpa using hall j _ _ (by have := (List.getElem?_eq_some_iff.1 hj.1).1; omega) hj.1 hj.2
      simp [this, hlen]
end Go.Am
