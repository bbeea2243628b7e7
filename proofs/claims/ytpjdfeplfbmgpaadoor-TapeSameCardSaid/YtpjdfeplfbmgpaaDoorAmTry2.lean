import Derived.Test.YtpjdfeplfbmgpaaDoorAmTry
set_option linter.unusedSimpArgs false
namespace Go.Am
/-- slices.Equal[[]int,int] -/
def a33 : AFunc :=
  { nparams := 2, ntmps := 26, pure := true, results := [.tmp 4],
    body := (.seq (.region [⟨(some 4), .mv (.val (.sc (.bool false))), none, []⟩])
    (.seq (.seq (.region [⟨(some 6), .mv (.tmp 0), none, []⟩,
      ⟨(some 7), .len (.tmp 6), none, []⟩,
      ⟨(some 8), .mv (.tmp 1), none, []⟩,
      ⟨(some 9), .len (.tmp 8), none, []⟩,
      ⟨(some 10), .bin .neq (.tmp 7) (.tmp 9), none, []⟩])
    (.cond (.tmp 10)
      (.seq (.region [⟨(some 4), .mv (.val (.sc (.bool false))), none, []⟩])
      .ret)
      .skip))
    (.seq (.seq (.region [⟨(some 11), .mv (.tmp 0), none, []⟩,
      ⟨(some 12), .len (.tmp 11), none, []⟩,
      ⟨(some 13), .mv (.val (.sc (.int .i64 (0)))), none, []⟩])
    (.block 0 (.loop (.seq (.region [⟨(some 14), .bin .lss (.tmp 13) (.tmp 12), none, []⟩])
        (.seq (.cond (.tmp 14)
          .skip
          (.exit 0))
        (.seq (.block 1 (.seq (.region [⟨(some 15), .mv (.tmp 13), none, []⟩,
            ⟨(some 5), .mv (.tmp 15), none, []⟩])
          (.seq (.region [⟨(some 16), .mv (.tmp 0), none, []⟩,
            ⟨(some 17), .mv (.tmp 5), none, []⟩,
            ⟨(some 18), .indexS 1 (.tmp 16) (.tmp 17), none, []⟩,
            ⟨(some 19), .load none (.tmp 18), none, []⟩,
            ⟨(some 20), .mv (.tmp 1), none, []⟩,
            ⟨(some 21), .mv (.tmp 5), none, []⟩,
            ⟨(some 22), .indexS 1 (.tmp 20) (.tmp 21), none, []⟩,
            ⟨(some 23), .load none (.tmp 22), none, []⟩,
            ⟨(some 24), .bin .neq (.tmp 19) (.tmp 23), none, []⟩])
          (.cond (.tmp 24)
            (.seq (.region [⟨(some 4), .mv (.val (.sc (.bool false))), none, []⟩])
            .ret)
            .skip))))
        (.region [⟨(some 25), .bin .add (.tmp 13) (.val (.sc (.int .i64 (1)))), none, []⟩,
          ⟨(some 13), .mv (.tmp 25), none, []⟩])))))))
    (.seq (.region [⟨(some 4), .mv (.val (.sc (.bool true))), none, []⟩])
    .ret)))) }


theorem equal_spec {S : Fns} {base : Nat} {f : FuncId} (hX : S.X f = none) (hF : S.F f = some a33) (xs ys : List Int) (ex ey : Cp) (h : Heap) (hx : xs.length < 2 ^ 63) :
    WpF S base f [.slc ex 1 (xs.map iv), .slc ey 1 (ys.map iv)] h fun v h' => v = .bool (decide (xs = ys)) ∧ h' = h := by
  refine WpF.bodyPure hX hF rfl rfl ?_
  simp only [a33]
  refine WpC.seq (WpC.region ?_)
  try simp only [WpO_op, WpO_nil, WpO_call, WpO_guard, step, okQ_some, Opd.get, put_app, put_none, thenQ, ne_eq, reduceCtorEq, not_false_eq_true, implies_true, slcLen, Option.map_some, Option.bind_some, bin, binInt, boolQ_bool, reduceIte, Nat.reduceEqDiff, List.getD_cons_zero, List.getD_cons_succ, IntKind.signed, indexV, asNat?, loadV, cutCells, unary, evRess, evRes1, oneOrTup, freezeV, blockQ, wrapV]
  refine WpC.seq (WpC.seq (WpC.region ?_))
  try simp only [WpO_op, WpO_nil, WpO_call, WpO_guard, step, okQ_some, Opd.get, put_app, put_none, thenQ, ne_eq, reduceCtorEq, not_false_eq_true, implies_true, slcLen, Option.map_some, Option.bind_some, bin, binInt, boolQ_bool, reduceIte, Nat.reduceEqDiff, List.getD_cons_zero, List.getD_cons_succ, IntKind.signed, indexV, asNat?, loadV, cutCells, unary, evRess, evRes1, oneOrTup, freezeV, blockQ, wrapV]
  refine WpC_cond ?_
  try simp only [WpO_op, WpO_nil, WpO_call, WpO_guard, step, okQ_some, Opd.get, put_app, put_none, thenQ, ne_eq, reduceCtorEq, not_false_eq_true, implies_true, slcLen, Option.map_some, Option.bind_some, bin, binInt, boolQ_bool, reduceIte, Nat.reduceEqDiff, List.getD_cons_zero, List.getD_cons_succ, IntKind.signed, indexV, asNat?, loadV, cutCells, unary, evRess, evRes1, oneOrTup, freezeV, blockQ, wrapV]
  split
  · rename_i hne
    refine WpC.seq (WpC.region ?_)
    try simp only [WpO_op, WpO_nil, WpO_call, WpO_guard, step, okQ_some, Opd.get, put_app, put_none, thenQ, ne_eq, reduceCtorEq, not_false_eq_true, implies_true, slcLen, Option.map_some, Option.bind_some, bin, binInt, boolQ_bool, reduceIte, Nat.reduceEqDiff, List.getD_cons_zero, List.getD_cons_succ, IntKind.signed, indexV, asNat?, loadV, cutCells, unary, evRess, evRes1, oneOrTup, freezeV, blockQ, wrapV]
    refine WpC.ret ?_
    try simp only [WpO_op, WpO_nil, WpO_call, WpO_guard, step, okQ_some, Opd.get, put_app, put_none, thenQ, ne_eq, reduceCtorEq, not_false_eq_true, implies_true, slcLen, Option.map_some, Option.bind_some, bin, binInt, boolQ_bool, reduceIte, Nat.reduceEqDiff, List.getD_cons_zero, List.getD_cons_succ, IntKind.signed, indexV, asNat?, loadV, cutCells, unary, evRess, evRes1, oneOrTup, freezeV, blockQ, wrapV]
    refine ⟨by simp, _, rfl, 1, _, rfl, ?_, by simp⟩
    have : xs ≠ ys := by rintro rfl; simp at hne
    simp [this]
  · rename_i hlen
    have hlen : xs.length = ys.length := by simp at hlen; omega
    refine WpC.skip ?_
    try simp only [WpO_op, WpO_nil, WpO_call, WpO_guard, step, okQ_some, Opd.get, put_app, put_none, thenQ, ne_eq, reduceCtorEq, not_false_eq_true, implies_true, slcLen, Option.map_some, Option.bind_some, bin, binInt, boolQ_bool, reduceIte, Nat.reduceEqDiff, List.getD_cons_zero, List.getD_cons_succ, IntKind.signed, indexV, asNat?, loadV, cutCells, unary, evRess, evRes1, oneOrTup, freezeV, blockQ, wrapV]
    refine WpC.seq (WpC.seq (WpC.region ?_))
    try simp only [WpO_op, WpO_nil, WpO_call, WpO_guard, step, okQ_some, Opd.get, put_app, put_none, thenQ, ne_eq, reduceCtorEq, not_false_eq_true, implies_true, slcLen, Option.map_some, Option.bind_some, bin, binInt, boolQ_bool, reduceIte, Nat.reduceEqDiff, List.getD_cons_zero, List.getD_cons_succ, IntKind.signed, indexV, asNat?, loadV, cutCells, unary, evRess, evRes1, oneOrTup, freezeV, blockQ, wrapV]
    refine WpC.block ?_
    refine WpC.loopInv (fun k en h' => ∃ i : Nat, k = xs.length - i ∧ i ≤ xs.length ∧ (∀ j, j < i → xs[j]? = ys[j]?) ∧ en 13 = V.int i ∧ en 12 = V.int xs.length ∧ en 0 = .slc ex 1 (xs.map iv) ∧ en 1 = .slc ey 1 (ys.map iv) ∧ h' = h) ?_ _ _ _ ⟨0, rfl, by omega, by simp, by simp only [WpO_op, WpO_nil, WpO_call, WpO_guard, step, okQ_some, Opd.get, put_app, put_none, thenQ, ne_eq, reduceCtorEq, not_false_eq_true, implies_true, slcLen, Option.map_some, Option.bind_some, bin, binInt, boolQ_bool, reduceIte, Nat.reduceEqDiff, List.getD_cons_zero, List.getD_cons_succ, IntKind.signed, indexV, asNat?, loadV, cutCells, unary, evRess, evRes1, oneOrTup, freezeV, blockQ, wrapV]; rfl, by simp only [WpO_op, WpO_nil, WpO_call, WpO_guard, step, okQ_some, Opd.get, put_app, put_none, thenQ, ne_eq, reduceCtorEq, not_false_eq_true, implies_true, slcLen, Option.map_some, Option.bind_some, bin, binInt, boolQ_bool, reduceIte, Nat.reduceEqDiff, List.getD_cons_zero, List.getD_cons_succ, IntKind.signed, indexV, asNat?, loadV, cutCells, unary, evRess, evRes1, oneOrTup, freezeV, blockQ, wrapV]; simp, by simp only [WpO_op, WpO_nil, WpO_call, WpO_guard, step, okQ_some, Opd.get, put_app, put_none, thenQ, ne_eq, reduceCtorEq, not_false_eq_true, implies_true, slcLen, Option.map_some, Option.bind_some, bin, binInt, boolQ_bool, reduceIte, Nat.reduceEqDiff, List.getD_cons_zero, List.getD_cons_succ, IntKind.signed, indexV, asNat?, loadV, cutCells, unary, evRess, evRes1, oneOrTup, freezeV, blockQ, wrapV], by simp only [WpO_op, WpO_nil, WpO_call, WpO_guard, step, okQ_some, Opd.get, put_app, put_none, thenQ, ne_eq, reduceCtorEq, not_false_eq_true, implies_true, slcLen, Option.map_some, Option.bind_some, bin, binInt, boolQ_bool, reduceIte, Nat.reduceEqDiff, List.getD_cons_zero, List.getD_cons_succ, IntKind.signed, indexV, asNat?, loadV, cutCells, unary, evRess, evRes1, oneOrTup, freezeV, blockQ, wrapV], rfl⟩
    rintro k en h' ⟨i, rfl, hi, hall, e5, e12, e0, e1, rfl⟩
    refine WpC.seq (WpC.region ?_)
    try simp only [WpO_op, WpO_nil, WpO_call, WpO_guard, step, okQ_some, Opd.get, put_app, put_none, thenQ, ne_eq, reduceCtorEq, not_false_eq_true, implies_true, slcLen, Option.map_some, Option.bind_some, bin, binInt, boolQ_bool, reduceIte, Nat.reduceEqDiff, List.getD_cons_zero, List.getD_cons_succ, IntKind.signed, indexV, asNat?, loadV, cutCells, unary, evRess, evRes1, oneOrTup, freezeV, blockQ, wrapV]
    simp only [e0, e1, e5, e12]
    try simp only [WpO_op, WpO_nil, WpO_call, WpO_guard, step, okQ_some, Opd.get, put_app, put_none, thenQ, ne_eq, reduceCtorEq, not_false_eq_true, implies_true, slcLen, Option.map_some, Option.bind_some, bin, binInt, boolQ_bool, reduceIte, Nat.reduceEqDiff, List.getD_cons_zero, List.getD_cons_succ, IntKind.signed, indexV, asNat?, loadV, cutCells, unary, evRess, evRes1, oneOrTup, freezeV, blockQ, wrapV]
    refine WpC.seq (WpC_cond ?_)
    try simp only [WpO_op, WpO_nil, WpO_call, WpO_guard, step, okQ_some, Opd.get, put_app, put_none, thenQ, ne_eq, reduceCtorEq, not_false_eq_true, implies_true, slcLen, Option.map_some, Option.bind_some, bin, binInt, boolQ_bool, reduceIte, Nat.reduceEqDiff, List.getD_cons_zero, List.getD_cons_succ, IntKind.signed, indexV, asNat?, loadV, cutCells, unary, evRess, evRes1, oneOrTup, freezeV, blockQ, wrapV]
    split
    · rename_i hlt
      have hlt : i < xs.length := by simp at hlt; omega
      have hlt2 : i < ys.length := by omega
      refine WpC.skip ?_
      try simp only [WpO_op, WpO_nil, WpO_call, WpO_guard, step, okQ_some, Opd.get, put_app, put_none, thenQ, ne_eq, reduceCtorEq, not_false_eq_true, implies_true, slcLen, Option.map_some, Option.bind_some, bin, binInt, boolQ_bool, reduceIte, Nat.reduceEqDiff, List.getD_cons_zero, List.getD_cons_succ, IntKind.signed, indexV, asNat?, loadV, cutCells, unary, evRess, evRes1, oneOrTup, freezeV, blockQ, wrapV]
      refine WpC.seq (WpC.block (WpC.seq (WpC.region ?_)))
      try simp only [WpO_op, WpO_nil, WpO_call, WpO_guard, step, okQ_some, Opd.get, put_app, put_none, thenQ, ne_eq, reduceCtorEq, not_false_eq_true, implies_true, slcLen, Option.map_some, Option.bind_some, bin, binInt, boolQ_bool, reduceIte, Nat.reduceEqDiff, List.getD_cons_zero, List.getD_cons_succ, IntKind.signed, indexV, asNat?, loadV, cutCells, unary, evRess, evRes1, oneOrTup, freezeV, blockQ, wrapV]
      simp only [e0, e1, e5, e12]
      try simp only [WpO_op, WpO_nil, WpO_call, WpO_guard, step, okQ_some, Opd.get, put_app, put_none, thenQ, ne_eq, reduceCtorEq, not_false_eq_true, implies_true, slcLen, Option.map_some, Option.bind_some, bin, binInt, boolQ_bool, reduceIte, Nat.reduceEqDiff, List.getD_cons_zero, List.getD_cons_succ, IntKind.signed, indexV, asNat?, loadV, cutCells, unary, evRess, evRes1, oneOrTup, freezeV, blockQ, wrapV]
      refine WpC.seq (WpC.region ?_)
      try simp only [WpO_op, WpO_nil, WpO_call, WpO_guard, step, okQ_some, Opd.get, put_app, put_none, thenQ, ne_eq, reduceCtorEq, not_false_eq_true, implies_true, slcLen, Option.map_some, Option.bind_some, bin, binInt, boolQ_bool, reduceIte, Nat.reduceEqDiff, List.getD_cons_zero, List.getD_cons_succ, IntKind.signed, indexV, asNat?, loadV, cutCells, unary, evRess, evRes1, oneOrTup, freezeV, blockQ, wrapV]
      simp only [e0, e1, e5, e12]
      try simp only [WpO_op, WpO_nil, WpO_call, WpO_guard, step, okQ_some, Opd.get, put_app, put_none, thenQ, ne_eq, reduceCtorEq, not_false_eq_true, implies_true, slcLen, Option.map_some, Option.bind_some, bin, binInt, boolQ_bool, reduceIte, Nat.reduceEqDiff, List.getD_cons_zero, List.getD_cons_succ, IntKind.signed, indexV, asNat?, loadV, cutCells, unary, evRess, evRes1, oneOrTup, freezeV, blockQ, wrapV]
      try simp only [Int.natCast_nonneg, if_true, Int.toNat_natCast, Option.bind_some, List.getElem?_map, List.getElem?_eq_getElem hlt, List.getElem?_eq_getElem hlt2, Option.map_some, okQ_some, List.getElem?_cons_zero, if_pos]
      try simp only [WpO_op, WpO_nil, WpO_call, WpO_guard, step, okQ_some, Opd.get, put_app, put_none, thenQ, ne_eq, reduceCtorEq, not_false_eq_true, implies_true, slcLen, Option.map_some, Option.bind_some, bin, binInt, boolQ_bool, reduceIte, Nat.reduceEqDiff, List.getD_cons_zero, List.getD_cons_succ, IntKind.signed, indexV, asNat?, loadV, cutCells, unary, evRess, evRes1, oneOrTup, freezeV, blockQ, wrapV]
      refine WpC_cond ?_
      try simp only [WpO_op, WpO_nil, WpO_call, WpO_guard, step, okQ_some, Opd.get, put_app, put_none, thenQ, ne_eq, reduceCtorEq, not_false_eq_true, implies_true, slcLen, Option.map_some, Option.bind_some, bin, binInt, boolQ_bool, reduceIte, Nat.reduceEqDiff, List.getD_cons_zero, List.getD_cons_succ, IntKind.signed, indexV, asNat?, loadV, cutCells, unary, evRess, evRes1, oneOrTup, freezeV, blockQ, wrapV]
      split
      · rename_i hne
        refine WpC.seq (WpC.region ?_)
        try simp only [WpO_op, WpO_nil, WpO_call, WpO_guard, step, okQ_some, Opd.get, put_app, put_none, thenQ, ne_eq, reduceCtorEq, not_false_eq_true, implies_true, slcLen, Option.map_some, Option.bind_some, bin, binInt, boolQ_bool, reduceIte, Nat.reduceEqDiff, List.getD_cons_zero, List.getD_cons_succ, IntKind.signed, indexV, asNat?, loadV, cutCells, unary, evRess, evRes1, oneOrTup, freezeV, blockQ, wrapV]
        refine WpC.ret ?_
        try simp only [WpO_op, WpO_nil, WpO_call, WpO_guard, step, okQ_some, Opd.get, put_app, put_none, thenQ, ne_eq, reduceCtorEq, not_false_eq_true, implies_true, slcLen, Option.map_some, Option.bind_some, bin, binInt, boolQ_bool, reduceIte, Nat.reduceEqDiff, List.getD_cons_zero, List.getD_cons_succ, IntKind.signed, indexV, asNat?, loadV, cutCells, unary, evRess, evRes1, oneOrTup, freezeV, blockQ, wrapV]
        refine ⟨by simp, _, rfl, 1, _, rfl, ?_, by simp⟩
        have : xs ≠ ys := by rintro rfl; simp at hne
        simp [this]
      · rename_i heq
        refine WpC.skip ?_
        try simp only [WpO_op, WpO_nil, WpO_call, WpO_guard, step, okQ_some, Opd.get, put_app, put_none, thenQ, ne_eq, reduceCtorEq, not_false_eq_true, implies_true, slcLen, Option.map_some, Option.bind_some, bin, binInt, boolQ_bool, reduceIte, Nat.reduceEqDiff, List.getD_cons_zero, List.getD_cons_succ, IntKind.signed, indexV, asNat?, loadV, cutCells, unary, evRess, evRes1, oneOrTup, freezeV, blockQ, wrapV]
        refine WpC.region ?_
        try simp only [WpO_op, WpO_nil, WpO_call, WpO_guard, step, okQ_some, Opd.get, put_app, put_none, thenQ, ne_eq, reduceCtorEq, not_false_eq_true, implies_true, slcLen, Option.map_some, Option.bind_some, bin, binInt, boolQ_bool, reduceIte, Nat.reduceEqDiff, List.getD_cons_zero, List.getD_cons_succ, IntKind.signed, indexV, asNat?, loadV, cutCells, unary, evRess, evRes1, oneOrTup, freezeV, blockQ, wrapV]
        simp only [e5]
        try simp only [WpO_op, WpO_nil, WpO_call, WpO_guard, step, okQ_some, Opd.get, put_app, put_none, thenQ, ne_eq, reduceCtorEq, not_false_eq_true, implies_true, slcLen, Option.map_some, Option.bind_some, bin, binInt, boolQ_bool, reduceIte, Nat.reduceEqDiff, List.getD_cons_zero, List.getD_cons_succ, IntKind.signed, indexV, asNat?, loadV, cutCells, unary, evRess, evRes1, oneOrTup, freezeV, blockQ, wrapV]
        refine ⟨xs.length - (i + 1), by omega, i + 1, rfl, by omega, ?_, ?_, e12, e0, e1, trivial⟩
        · intro j hj
          rcases Nat.lt_or_ge j i with hj' | hj'
          · exact hall j hj'
          · have : j = i := by omega
            subst this
            simpa [hlt, hlt2] using heq
        · rw [wrap_i64 (by omega) (by omega)]
          rfl
    · rename_i hge
      have hge : xs.length ≤ i := by simp at hge; omega
      refine WpC.exit ?_
      try simp only [WpO_op, WpO_nil, WpO_call, WpO_guard, step, okQ_some, Opd.get, put_app, put_none, thenQ, ne_eq, reduceCtorEq, not_false_eq_true, implies_true, slcLen, Option.map_some, Option.bind_some, bin, binInt, boolQ_bool, reduceIte, Nat.reduceEqDiff, List.getD_cons_zero, List.getD_cons_succ, IntKind.signed, indexV, asNat?, loadV, cutCells, unary, evRess, evRes1, oneOrTup, freezeV, blockQ, wrapV]
      refine WpC.seq (WpC.region ?_)
      try simp only [WpO_op, WpO_nil, WpO_call, WpO_guard, step, okQ_some, Opd.get, put_app, put_none, thenQ, ne_eq, reduceCtorEq, not_false_eq_true, implies_true, slcLen, Option.map_some, Option.bind_some, bin, binInt, boolQ_bool, reduceIte, Nat.reduceEqDiff, List.getD_cons_zero, List.getD_cons_succ, IntKind.signed, indexV, asNat?, loadV, cutCells, unary, evRess, evRes1, oneOrTup, freezeV, blockQ, wrapV]
      refine WpC.ret ?_
      try simp only [WpO_op, WpO_nil, WpO_call, WpO_guard, step, okQ_some, Opd.get, put_app, put_none, thenQ, ne_eq, reduceCtorEq, not_false_eq_true, implies_true, slcLen, Option.map_some, Option.bind_some, bin, binInt, boolQ_bool, reduceIte, Nat.reduceEqDiff, List.getD_cons_zero, List.getD_cons_succ, IntKind.signed, indexV, asNat?, loadV, cutCells, unary, evRess, evRes1, oneOrTup, freezeV, blockQ, wrapV]
      refine ⟨by simp, _, rfl, 1, _, rfl, ?_, by simp⟩
      have : xs = ys := by
        apply List.ext_getElem?
        intro j
        rcases Nat.lt_or_ge j i with hj' | hj'
        · exact hall j hj'
        · rw [List.getElem?_eq_none (by omega), List.getElem?_eq_none (by omega)]
      simp [this]
end Go.Am
