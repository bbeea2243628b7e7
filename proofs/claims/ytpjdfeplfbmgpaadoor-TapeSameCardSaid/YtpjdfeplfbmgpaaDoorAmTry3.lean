import Derived.Test.YtpjdfeplfbmgpaaDoorAmTry2
set_option linter.unusedSimpArgs false
namespace Go.Am
/-- slices.EqualFunc[[][]int,[][]int,[]int,[]int] -/
def a32 : AFunc :=
  { nparams := 3, ntmps := 32, pure := true, results := [.tmp 6],
    body := (.seq (.region [⟨(some 6), .mv (.val (.sc (.bool false))), none, []⟩])
    (.seq (.seq (.region [⟨(some 10), .mv (.tmp 0), none, []⟩,
      ⟨(some 11), .len (.tmp 10), none, []⟩,
      ⟨(some 12), .mv (.tmp 1), none, []⟩,
      ⟨(some 13), .len (.tmp 12), none, []⟩,
      ⟨(some 14), .bin .neq (.tmp 11) (.tmp 13), none, []⟩])
    (.cond (.tmp 14)
      (.seq (.region [⟨(some 6), .mv (.val (.sc (.bool false))), none, []⟩])
      .ret)
      .skip))
    (.seq (.seq (.region [⟨(some 15), .mv (.tmp 0), none, []⟩,
      ⟨(some 16), .len (.tmp 15), none, []⟩,
      ⟨(some 17), .mv (.val (.sc (.int .i64 (0)))), none, []⟩])
    (.block 0 (.loop (.seq (.region [⟨(some 18), .bin .lss (.tmp 17) (.tmp 16), none, []⟩])
        (.seq (.cond (.tmp 18)
          .skip
          (.exit 0))
        (.seq (.block 1 (.seq (.region [⟨(some 19), .mv (.tmp 17), none, []⟩,
            ⟨(some 20), .indexS 1 (.tmp 15) (.tmp 17), none, []⟩,
            ⟨(some 21), .load none (.tmp 20), none, []⟩,
            ⟨(some 7), .mv (.tmp 19), none, []⟩,
            ⟨(some 8), .mv (.tmp 21), none, []⟩])
          (.seq (.region [⟨(some 22), .mv (.tmp 1), none, []⟩,
            ⟨(some 23), .mv (.tmp 7), none, []⟩,
            ⟨(some 24), .indexS 1 (.tmp 22) (.tmp 23), none, []⟩,
            ⟨(some 25), .load none (.tmp 24), none, []⟩,
            ⟨(some 9), .mv (.tmp 25), none, []⟩])
          (.seq (.region [⟨(some 26), .mv (.tmp 2), none, []⟩,
            ⟨(some 27), .mv (.tmp 8), none, []⟩,
            ⟨(some 28), .mv (.tmp 9), none, []⟩,
            ⟨(some 29), .call (.tmp 26) [(.tmp 27), (.tmp 28)], none, []⟩,
            ⟨(some 30), .un .not (.tmp 29), none, []⟩])
          (.cond (.tmp 30)
            (.seq (.region [⟨(some 6), .mv (.val (.sc (.bool false))), none, []⟩])
            .ret)
            .skip)))))
        (.region [⟨(some 31), .bin .add (.tmp 17) (.val (.sc (.int .i64 (1)))), none, []⟩,
          ⟨(some 17), .mv (.tmp 31), none, []⟩])))))))
    (.seq (.region [⟨(some 6), .mv (.val (.sc (.bool true))), none, []⟩])
    .ret)))) }


abbrev rv (l : List Int) : List V := [.slc .any 1 (l.map iv)]
theorem equalFunc_spec {S : Fns} {base : Nat} {f g : FuncId} (hX : S.X f = none) (hF : S.F f = some a32) (p : List Int → List Int → Bool) (xs ys : List (List Int)) (ex ey : Cp) (h : Heap) (hx : xs.length < 2 ^ 63)
    (hg : ∀ (base : Nat) (a b : List Int), a ∈ xs → b ∈ ys → WpF S base g [.slc .any 1 (a.map iv), .slc .any 1 (b.map iv)] h fun v h' => v = .bool (p a b) ∧ h' = h) :
    WpF S base f [.slc ex 1 (xs.map rv), .slc ey 1 (ys.map rv), .fn (.func g) [] []] h fun v h' => v = .bool (xs.length == ys.length && (xs.zip ys).all fun q => p q.1 q.2) ∧ h' = h := by
  refine WpF.bodyPure hX hF rfl rfl ?_
  simp only [a32]
  refine WpC.seq (WpC.region ?_)
  try simp only [WpO_op, WpO_nil, WpO_call, WpO_guard, step, okQ_some, Opd.get, put_app, put_none, thenQ, ne_eq, reduceCtorEq, not_false_eq_true, implies_true, slcLen, Option.map_some, Option.bind_some, bin, binInt, boolQ_bool, reduceIte, Nat.reduceEqDiff, List.getD_cons_zero, List.getD_cons_succ, IntKind.signed, indexV, asNat?, loadV, cutCells, unary, evRess, evRes1, oneOrTup, freezeV, blockQ, wrapV, target, getsO, callQ_some, List.nil_append, List.append_nil]
  refine WpC.seq (WpC.seq (WpC.region ?_))
  try simp only [WpO_op, WpO_nil, WpO_call, WpO_guard, step, okQ_some, Opd.get, put_app, put_none, thenQ, ne_eq, reduceCtorEq, not_false_eq_true, implies_true, slcLen, Option.map_some, Option.bind_some, bin, binInt, boolQ_bool, reduceIte, Nat.reduceEqDiff, List.getD_cons_zero, List.getD_cons_succ, IntKind.signed, indexV, asNat?, loadV, cutCells, unary, evRess, evRes1, oneOrTup, freezeV, blockQ, wrapV, target, getsO, callQ_some, List.nil_append, List.append_nil]
  refine WpC_cond ?_
  try simp only [WpO_op, WpO_nil, WpO_call, WpO_guard, step, okQ_some, Opd.get, put_app, put_none, thenQ, ne_eq, reduceCtorEq, not_false_eq_true, implies_true, slcLen, Option.map_some, Option.bind_some, bin, binInt, boolQ_bool, reduceIte, Nat.reduceEqDiff, List.getD_cons_zero, List.getD_cons_succ, IntKind.signed, indexV, asNat?, loadV, cutCells, unary, evRess, evRes1, oneOrTup, freezeV, blockQ, wrapV, target, getsO, callQ_some, List.nil_append, List.append_nil]
  split
  · rename_i hne
    refine WpC.seq (WpC.region ?_)
    try simp only [WpO_op, WpO_nil, WpO_call, WpO_guard, step, okQ_some, Opd.get, put_app, put_none, thenQ, ne_eq, reduceCtorEq, not_false_eq_true, implies_true, slcLen, Option.map_some, Option.bind_some, bin, binInt, boolQ_bool, reduceIte, Nat.reduceEqDiff, List.getD_cons_zero, List.getD_cons_succ, IntKind.signed, indexV, asNat?, loadV, cutCells, unary, evRess, evRes1, oneOrTup, freezeV, blockQ, wrapV, target, getsO, callQ_some, List.nil_append, List.append_nil]
    refine WpC.ret ?_
    try simp only [WpO_op, WpO_nil, WpO_call, WpO_guard, step, okQ_some, Opd.get, put_app, put_none, thenQ, ne_eq, reduceCtorEq, not_false_eq_true, implies_true, slcLen, Option.map_some, Option.bind_some, bin, binInt, boolQ_bool, reduceIte, Nat.reduceEqDiff, List.getD_cons_zero, List.getD_cons_succ, IntKind.signed, indexV, asNat?, loadV, cutCells, unary, evRess, evRes1, oneOrTup, freezeV, blockQ, wrapV, target, getsO, callQ_some, List.nil_append, List.append_nil]
    refine ⟨by simp, _, rfl, 1, _, rfl, ?_, by simp⟩
    have : xs.length ≠ ys.length := by simp at hne; omega
    simp [this]
  · rename_i hlen
    have hlen : xs.length = ys.length := by simp at hlen; omega
    refine WpC.skip ?_
    try simp only [WpO_op, WpO_nil, WpO_call, WpO_guard, step, okQ_some, Opd.get, put_app, put_none, thenQ, ne_eq, reduceCtorEq, not_false_eq_true, implies_true, slcLen, Option.map_some, Option.bind_some, bin, binInt, boolQ_bool, reduceIte, Nat.reduceEqDiff, List.getD_cons_zero, List.getD_cons_succ, IntKind.signed, indexV, asNat?, loadV, cutCells, unary, evRess, evRes1, oneOrTup, freezeV, blockQ, wrapV, target, getsO, callQ_some, List.nil_append, List.append_nil]
    refine WpC.seq (WpC.seq (WpC.region ?_))
    try simp only [WpO_op, WpO_nil, WpO_call, WpO_guard, step, okQ_some, Opd.get, put_app, put_none, thenQ, ne_eq, reduceCtorEq, not_false_eq_true, implies_true, slcLen, Option.map_some, Option.bind_some, bin, binInt, boolQ_bool, reduceIte, Nat.reduceEqDiff, List.getD_cons_zero, List.getD_cons_succ, IntKind.signed, indexV, asNat?, loadV, cutCells, unary, evRess, evRes1, oneOrTup, freezeV, blockQ, wrapV, target, getsO, callQ_some, List.nil_append, List.append_nil]
    refine WpC.block ?_
    refine WpC.loopInv (fun k en h' => ∃ i : Nat, k = xs.length - i ∧ i ≤ xs.length ∧ (∀ (j : Nat) a b, j < i → xs[j]? = some a → ys[j]? = some b → p a b = true) ∧ en 17 = V.int i ∧ en 16 = V.int xs.length ∧ en 15 = .slc ex 1 (xs.map rv) ∧ en 1 = .slc ey 1 (ys.map rv) ∧ en 2 = .fn (.func g) [] [] ∧ h' = h) ?_ _ _ _ ⟨0, rfl, by omega, by simp, by simp only [WpO_op, WpO_nil, WpO_call, WpO_guard, step, okQ_some, Opd.get, put_app, put_none, thenQ, ne_eq, reduceCtorEq, not_false_eq_true, implies_true, slcLen, Option.map_some, Option.bind_some, bin, binInt, boolQ_bool, reduceIte, Nat.reduceEqDiff, List.getD_cons_zero, List.getD_cons_succ, IntKind.signed, indexV, asNat?, loadV, cutCells, unary, evRess, evRes1, oneOrTup, freezeV, blockQ, wrapV, target, getsO, callQ_some, List.nil_append, List.append_nil]; rfl, by simp only [WpO_op, WpO_nil, WpO_call, WpO_guard, step, okQ_some, Opd.get, put_app, put_none, thenQ, ne_eq, reduceCtorEq, not_false_eq_true, implies_true, slcLen, Option.map_some, Option.bind_some, bin, binInt, boolQ_bool, reduceIte, Nat.reduceEqDiff, List.getD_cons_zero, List.getD_cons_succ, IntKind.signed, indexV, asNat?, loadV, cutCells, unary, evRess, evRes1, oneOrTup, freezeV, blockQ, wrapV, target, getsO, callQ_some, List.nil_append, List.append_nil]; simp, by simp only [WpO_op, WpO_nil, WpO_call, WpO_guard, step, okQ_some, Opd.get, put_app, put_none, thenQ, ne_eq, reduceCtorEq, not_false_eq_true, implies_true, slcLen, Option.map_some, Option.bind_some, bin, binInt, boolQ_bool, reduceIte, Nat.reduceEqDiff, List.getD_cons_zero, List.getD_cons_succ, IntKind.signed, indexV, asNat?, loadV, cutCells, unary, evRess, evRes1, oneOrTup, freezeV, blockQ, wrapV, target, getsO, callQ_some, List.nil_append, List.append_nil], by simp only [WpO_op, WpO_nil, WpO_call, WpO_guard, step, okQ_some, Opd.get, put_app, put_none, thenQ, ne_eq, reduceCtorEq, not_false_eq_true, implies_true, slcLen, Option.map_some, Option.bind_some, bin, binInt, boolQ_bool, reduceIte, Nat.reduceEqDiff, List.getD_cons_zero, List.getD_cons_succ, IntKind.signed, indexV, asNat?, loadV, cutCells, unary, evRess, evRes1, oneOrTup, freezeV, blockQ, wrapV, target, getsO, callQ_some, List.nil_append, List.append_nil], by simp only [WpO_op, WpO_nil, WpO_call, WpO_guard, step, okQ_some, Opd.get, put_app, put_none, thenQ, ne_eq, reduceCtorEq, not_false_eq_true, implies_true, slcLen, Option.map_some, Option.bind_some, bin, binInt, boolQ_bool, reduceIte, Nat.reduceEqDiff, List.getD_cons_zero, List.getD_cons_succ, IntKind.signed, indexV, asNat?, loadV, cutCells, unary, evRess, evRes1, oneOrTup, freezeV, blockQ, wrapV, target, getsO, callQ_some, List.nil_append, List.append_nil], rfl⟩
    rintro k en h' ⟨i, rfl, hi, hall, e5, e12, e0, e1, e2, rfl⟩
    refine WpC.seq (WpC.region ?_)
    try simp only [WpO_op, WpO_nil, WpO_call, WpO_guard, step, okQ_some, Opd.get, put_app, put_none, thenQ, ne_eq, reduceCtorEq, not_false_eq_true, implies_true, slcLen, Option.map_some, Option.bind_some, bin, binInt, boolQ_bool, reduceIte, Nat.reduceEqDiff, List.getD_cons_zero, List.getD_cons_succ, IntKind.signed, indexV, asNat?, loadV, cutCells, unary, evRess, evRes1, oneOrTup, freezeV, blockQ, wrapV, target, getsO, callQ_some, List.nil_append, List.append_nil]
    simp only [e0, e1, e5, e12]
    try simp only [WpO_op, WpO_nil, WpO_call, WpO_guard, step, okQ_some, Opd.get, put_app, put_none, thenQ, ne_eq, reduceCtorEq, not_false_eq_true, implies_true, slcLen, Option.map_some, Option.bind_some, bin, binInt, boolQ_bool, reduceIte, Nat.reduceEqDiff, List.getD_cons_zero, List.getD_cons_succ, IntKind.signed, indexV, asNat?, loadV, cutCells, unary, evRess, evRes1, oneOrTup, freezeV, blockQ, wrapV, target, getsO, callQ_some, List.nil_append, List.append_nil]
    refine WpC.seq (WpC_cond ?_)
    try simp only [WpO_op, WpO_nil, WpO_call, WpO_guard, step, okQ_some, Opd.get, put_app, put_none, thenQ, ne_eq, reduceCtorEq, not_false_eq_true, implies_true, slcLen, Option.map_some, Option.bind_some, bin, binInt, boolQ_bool, reduceIte, Nat.reduceEqDiff, List.getD_cons_zero, List.getD_cons_succ, IntKind.signed, indexV, asNat?, loadV, cutCells, unary, evRess, evRes1, oneOrTup, freezeV, blockQ, wrapV, target, getsO, callQ_some, List.nil_append, List.append_nil]
    split
    · rename_i hlt
      have hlt : i < xs.length := by simp at hlt; omega
      have hlt2 : i < ys.length := by omega
      refine WpC.skip ?_
      try simp only [WpO_op, WpO_nil, WpO_call, WpO_guard, step, okQ_some, Opd.get, put_app, put_none, thenQ, ne_eq, reduceCtorEq, not_false_eq_true, implies_true, slcLen, Option.map_some, Option.bind_some, bin, binInt, boolQ_bool, reduceIte, Nat.reduceEqDiff, List.getD_cons_zero, List.getD_cons_succ, IntKind.signed, indexV, asNat?, loadV, cutCells, unary, evRess, evRes1, oneOrTup, freezeV, blockQ, wrapV, target, getsO, callQ_some, List.nil_append, List.append_nil]
      refine WpC.seq (WpC.block (WpC.seq (WpC.region ?_)))
      try simp only [WpO_op, WpO_nil, WpO_call, WpO_guard, step, okQ_some, Opd.get, put_app, put_none, thenQ, ne_eq, reduceCtorEq, not_false_eq_true, implies_true, slcLen, Option.map_some, Option.bind_some, bin, binInt, boolQ_bool, reduceIte, Nat.reduceEqDiff, List.getD_cons_zero, List.getD_cons_succ, IntKind.signed, indexV, asNat?, loadV, cutCells, unary, evRess, evRes1, oneOrTup, freezeV, blockQ, wrapV, target, getsO, callQ_some, List.nil_append, List.append_nil]
      simp only [e0, e1, e5, e12]
      try simp only [WpO_op, WpO_nil, WpO_call, WpO_guard, step, okQ_some, Opd.get, put_app, put_none, thenQ, ne_eq, reduceCtorEq, not_false_eq_true, implies_true, slcLen, Option.map_some, Option.bind_some, bin, binInt, boolQ_bool, reduceIte, Nat.reduceEqDiff, List.getD_cons_zero, List.getD_cons_succ, IntKind.signed, indexV, asNat?, loadV, cutCells, unary, evRess, evRes1, oneOrTup, freezeV, blockQ, wrapV, target, getsO, callQ_some, List.nil_append, List.append_nil]
      try simp only [Int.natCast_nonneg, if_true, Int.toNat_natCast, Option.bind_some, List.getElem?_map, List.getElem?_eq_getElem hlt, List.getElem?_eq_getElem hlt2, Option.map_some, okQ_some, List.getElem?_cons_zero, if_pos]
      try simp only [WpO_op, WpO_nil, WpO_call, WpO_guard, step, okQ_some, Opd.get, put_app, put_none, thenQ, ne_eq, reduceCtorEq, not_false_eq_true, implies_true, slcLen, Option.map_some, Option.bind_some, bin, binInt, boolQ_bool, reduceIte, Nat.reduceEqDiff, List.getD_cons_zero, List.getD_cons_succ, IntKind.signed, indexV, asNat?, loadV, cutCells, unary, evRess, evRes1, oneOrTup, freezeV, blockQ, wrapV, target, getsO, callQ_some, List.nil_append, List.append_nil]
      refine WpC.seq (WpC.region ?_)
      try simp only [WpO_op, WpO_nil, WpO_call, WpO_guard, step, okQ_some, Opd.get, put_app, put_none, thenQ, ne_eq, reduceCtorEq, not_false_eq_true, implies_true, slcLen, Option.map_some, Option.bind_some, bin, binInt, boolQ_bool, reduceIte, Nat.reduceEqDiff, List.getD_cons_zero, List.getD_cons_succ, IntKind.signed, indexV, asNat?, loadV, cutCells, unary, evRess, evRes1, oneOrTup, freezeV, blockQ, wrapV, target, getsO, callQ_some, List.nil_append, List.append_nil]
      simp only [e0, e1, e5, e12]
      try simp only [WpO_op, WpO_nil, WpO_call, WpO_guard, step, okQ_some, Opd.get, put_app, put_none, thenQ, ne_eq, reduceCtorEq, not_false_eq_true, implies_true, slcLen, Option.map_some, Option.bind_some, bin, binInt, boolQ_bool, reduceIte, Nat.reduceEqDiff, List.getD_cons_zero, List.getD_cons_succ, IntKind.signed, indexV, asNat?, loadV, cutCells, unary, evRess, evRes1, oneOrTup, freezeV, blockQ, wrapV, target, getsO, callQ_some, List.nil_append, List.append_nil]
      try simp only [Int.natCast_nonneg, if_true, Int.toNat_natCast, Option.bind_some, List.getElem?_map, List.getElem?_eq_getElem hlt, List.getElem?_eq_getElem hlt2, Option.map_some, okQ_some, List.getElem?_cons_zero, if_pos]
      try simp only [WpO_op, WpO_nil, WpO_call, WpO_guard, step, okQ_some, Opd.get, put_app, put_none, thenQ, ne_eq, reduceCtorEq, not_false_eq_true, implies_true, slcLen, Option.map_some, Option.bind_some, bin, binInt, boolQ_bool, reduceIte, Nat.reduceEqDiff, List.getD_cons_zero, List.getD_cons_succ, IntKind.signed, indexV, asNat?, loadV, cutCells, unary, evRess, evRes1, oneOrTup, freezeV, blockQ, wrapV, target, getsO, callQ_some, List.nil_append, List.append_nil]
      refine WpC.seq (WpC.region ?_)
      try simp only [WpO_op, WpO_nil, WpO_call, WpO_guard, step, okQ_some, Opd.get, put_app, put_none, thenQ, ne_eq, reduceCtorEq, not_false_eq_true, implies_true, slcLen, Option.map_some, Option.bind_some, bin, binInt, boolQ_bool, reduceIte, Nat.reduceEqDiff, List.getD_cons_zero, List.getD_cons_succ, IntKind.signed, indexV, asNat?, loadV, cutCells, unary, evRess, evRes1, oneOrTup, freezeV, blockQ, wrapV, target, getsO, callQ_some, List.nil_append, List.append_nil]
      simp only [e2]
      try simp only [WpO_op, WpO_nil, WpO_call, WpO_guard, step, okQ_some, Opd.get, put_app, put_none, thenQ, ne_eq, reduceCtorEq, not_false_eq_true, implies_true, slcLen, Option.map_some, Option.bind_some, bin, binInt, boolQ_bool, reduceIte, Nat.reduceEqDiff, List.getD_cons_zero, List.getD_cons_succ, IntKind.signed, indexV, asNat?, loadV, cutCells, unary, evRess, evRes1, oneOrTup, freezeV, blockQ, wrapV, target, getsO, callQ_some, List.nil_append, List.append_nil]
      refine (hg _ xs[i] ys[i] (List.getElem_mem hlt) (List.getElem_mem hlt2)).mono ?_
      rintro v h2 ⟨rfl, rfl⟩
      try simp only [WpO_op, WpO_nil, WpO_call, WpO_guard, step, okQ_some, Opd.get, put_app, put_none, thenQ, ne_eq, reduceCtorEq, not_false_eq_true, implies_true, slcLen, Option.map_some, Option.bind_some, bin, binInt, boolQ_bool, reduceIte, Nat.reduceEqDiff, List.getD_cons_zero, List.getD_cons_succ, IntKind.signed, indexV, asNat?, loadV, cutCells, unary, evRess, evRes1, oneOrTup, freezeV, blockQ, wrapV, target, getsO, callQ_some, List.nil_append, List.append_nil]
      refine WpC_cond ?_
      try simp only [WpO_op, WpO_nil, WpO_call, WpO_guard, step, okQ_some, Opd.get, put_app, put_none, thenQ, ne_eq, reduceCtorEq, not_false_eq_true, implies_true, slcLen, Option.map_some, Option.bind_some, bin, binInt, boolQ_bool, reduceIte, Nat.reduceEqDiff, List.getD_cons_zero, List.getD_cons_succ, IntKind.signed, indexV, asNat?, loadV, cutCells, unary, evRess, evRes1, oneOrTup, freezeV, blockQ, wrapV, target, getsO, callQ_some, List.nil_append, List.append_nil]
      split
      · rename_i hne
        refine WpC.seq (WpC.region ?_)
        try simp only [WpO_op, WpO_nil, WpO_call, WpO_guard, step, okQ_some, Opd.get, put_app, put_none, thenQ, ne_eq, reduceCtorEq, not_false_eq_true, implies_true, slcLen, Option.map_some, Option.bind_some, bin, binInt, boolQ_bool, reduceIte, Nat.reduceEqDiff, List.getD_cons_zero, List.getD_cons_succ, IntKind.signed, indexV, asNat?, loadV, cutCells, unary, evRess, evRes1, oneOrTup, freezeV, blockQ, wrapV, target, getsO, callQ_some, List.nil_append, List.append_nil]
        refine WpC.ret ?_
        try simp only [WpO_op, WpO_nil, WpO_call, WpO_guard, step, okQ_some, Opd.get, put_app, put_none, thenQ, ne_eq, reduceCtorEq, not_false_eq_true, implies_true, slcLen, Option.map_some, Option.bind_some, bin, binInt, boolQ_bool, reduceIte, Nat.reduceEqDiff, List.getD_cons_zero, List.getD_cons_succ, IntKind.signed, indexV, asNat?, loadV, cutCells, unary, evRess, evRes1, oneOrTup, freezeV, blockQ, wrapV, target, getsO, callQ_some, List.nil_append, List.append_nil]
        refine ⟨by simp, _, rfl, 1, _, rfl, ?_, by simp⟩
        have : ((xs.zip ys).all fun q => p q.1 q.2) = false := by
          rw [List.all_eq_false]
          refine ⟨(xs[i], ys[i]), List.mem_of_getElem? (i := i) (by simp [hlt, hlt2, List.getElem?_zip_eq_some]), ?_⟩
          simpa using hne
        simp [this]
      · rename_i heq
        refine WpC.skip ?_
        try simp only [WpO_op, WpO_nil, WpO_call, WpO_guard, step, okQ_some, Opd.get, put_app, put_none, thenQ, ne_eq, reduceCtorEq, not_false_eq_true, implies_true, slcLen, Option.map_some, Option.bind_some, bin, binInt, boolQ_bool, reduceIte, Nat.reduceEqDiff, List.getD_cons_zero, List.getD_cons_succ, IntKind.signed, indexV, asNat?, loadV, cutCells, unary, evRess, evRes1, oneOrTup, freezeV, blockQ, wrapV, target, getsO, callQ_some, List.nil_append, List.append_nil]
        refine WpC.region ?_
        try simp only [WpO_op, WpO_nil, WpO_call, WpO_guard, step, okQ_some, Opd.get, put_app, put_none, thenQ, ne_eq, reduceCtorEq, not_false_eq_true, implies_true, slcLen, Option.map_some, Option.bind_some, bin, binInt, boolQ_bool, reduceIte, Nat.reduceEqDiff, List.getD_cons_zero, List.getD_cons_succ, IntKind.signed, indexV, asNat?, loadV, cutCells, unary, evRess, evRes1, oneOrTup, freezeV, blockQ, wrapV, target, getsO, callQ_some, List.nil_append, List.append_nil]
        simp only [e5]
        try simp only [WpO_op, WpO_nil, WpO_call, WpO_guard, step, okQ_some, Opd.get, put_app, put_none, thenQ, ne_eq, reduceCtorEq, not_false_eq_true, implies_true, slcLen, Option.map_some, Option.bind_some, bin, binInt, boolQ_bool, reduceIte, Nat.reduceEqDiff, List.getD_cons_zero, List.getD_cons_succ, IntKind.signed, indexV, asNat?, loadV, cutCells, unary, evRess, evRes1, oneOrTup, freezeV, blockQ, wrapV, target, getsO, callQ_some, List.nil_append, List.append_nil]
        refine ⟨xs.length - (i + 1), by omega, i + 1, rfl, by omega, ?_, ?_, e12, e0, e1, e2, trivial⟩
        · intro j a b hj ha hb
          rcases Nat.lt_or_ge j i with hj' | hj'
          · exact hall j a b hj' ha hb
          · have : j = i := by omega
            subst this
            simp [hlt] at ha
            simp [hlt2] at hb
            subst ha; subst hb
            simpa using heq
        · rw [wrap_i64 (by omega) (by omega)]
          rfl
    · rename_i hge
      have hge : xs.length ≤ i := by simp at hge; omega
      refine WpC.exit ?_
      try simp only [WpO_op, WpO_nil, WpO_call, WpO_guard, step, okQ_some, Opd.get, put_app, put_none, thenQ, ne_eq, reduceCtorEq, not_false_eq_true, implies_true, slcLen, Option.map_some, Option.bind_some, bin, binInt, boolQ_bool, reduceIte, Nat.reduceEqDiff, List.getD_cons_zero, List.getD_cons_succ, IntKind.signed, indexV, asNat?, loadV, cutCells, unary, evRess, evRes1, oneOrTup, freezeV, blockQ, wrapV, target, getsO, callQ_some, List.nil_append, List.append_nil]
      refine WpC.seq (WpC.region ?_)
      try simp only [WpO_op, WpO_nil, WpO_call, WpO_guard, step, okQ_some, Opd.get, put_app, put_none, thenQ, ne_eq, reduceCtorEq, not_false_eq_true, implies_true, slcLen, Option.map_some, Option.bind_some, bin, binInt, boolQ_bool, reduceIte, Nat.reduceEqDiff, List.getD_cons_zero, List.getD_cons_succ, IntKind.signed, indexV, asNat?, loadV, cutCells, unary, evRess, evRes1, oneOrTup, freezeV, blockQ, wrapV, target, getsO, callQ_some, List.nil_append, List.append_nil]
      refine WpC.ret ?_
      try simp only [WpO_op, WpO_nil, WpO_call, WpO_guard, step, okQ_some, Opd.get, put_app, put_none, thenQ, ne_eq, reduceCtorEq, not_false_eq_true, implies_true, slcLen, Option.map_some, Option.bind_some, bin, binInt, boolQ_bool, reduceIte, Nat.reduceEqDiff, List.getD_cons_zero, List.getD_cons_succ, IntKind.signed, indexV, asNat?, loadV, cutCells, unary, evRess, evRes1, oneOrTup, freezeV, blockQ, wrapV, target, getsO, callQ_some, List.nil_append, List.append_nil]
      refine ⟨by simp, _, rfl, 1, _, rfl, ?_, by simp⟩
      have : ((xs.zip ys).all fun q => p q.1 q.2) = true := by
        rw [List.all_eq_true]
        intro q hq
        obtain ⟨j, hj⟩ := List.getElem?_of_mem hq
        rw [List.getElem?_zip_eq_some] at hj
        exact hall j _ _ (by have := (List.getElem?_eq_some_iff.1 hj.1).1; omega) hj.1 hj.2
      simp [this, hlen]
end Go.Am
