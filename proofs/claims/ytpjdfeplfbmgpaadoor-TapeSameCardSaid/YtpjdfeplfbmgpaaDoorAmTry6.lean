import Derived.Test.YtpjdfeplfbmgpaaDoorAmTry5
set_option linter.unusedSimpArgs false
namespace Go.Am
/-- spinnaker/tape.Begins$1 -/
def a34 : AFunc :=
  { nparams := 2, ntmps := 18, pure := true, results := [.tmp 4],
    body := (.seq (.region [⟨(some 4), .mv (.val (.sc (.bool false))), none, []⟩])
    (.seq (.region [⟨(some 5), .mv (.tmp 0), none, []⟩,
      ⟨(some 6), .len (.tmp 5), none, []⟩,
      ⟨(some 7), .mv (.tmp 1), none, []⟩,
      ⟨(some 8), .len (.tmp 7), none, []⟩,
      ⟨(some 9), .bin .leq (.tmp 6) (.tmp 8), none, []⟩,
      ⟨(some 10), .mv (.tmp 9), none, []⟩,
      ⟨(some 11), .mv (.tmp 0), (some (10, true)), []⟩,
      ⟨(some 12), .mv (.tmp 1), (some (10, true)), []⟩,
      ⟨(some 13), .mv (.tmp 0), (some (10, true)), []⟩,
      ⟨(some 14), .len (.tmp 13), (some (10, true)), []⟩,
      ⟨(some 15), .slice 1 (.tmp 12) none (some (.tmp 14)) none, (some (10, true)), []⟩,
      ⟨(some 16), .call (.val (.fn (.func 33) [] [])) [(.tmp 11), (.tmp 15)], (some (10, true)), []⟩,
      ⟨(some 17), .pick (.tmp 10) (.tmp 16) (.val (.sc (.bool false))), none, []⟩,
      ⟨(some 4), .mv (.tmp 17), none, []⟩])
    .ret)) }


theorem begins1_spec {S : Fns} {base : Nat} {f : FuncId} (hX : S.X f = none) (hF : S.F f = some a34) (hX33 : S.X 33 = none) (hF33 : S.F 33 = some a33)
    (xs ys : List Int) (h : Heap) (hx : xs.length < 2 ^ 63) :
    WpF S base f [.slc .any 1 (xs.map iv), .slc .any 1 (ys.map iv)] h fun v h' => v = .bool (decide (xs.length ≤ ys.length ∧ xs = ys.take xs.length)) ∧ h' = h := by
  refine WpF.bodyPure hX hF rfl rfl ?_
  simp only [a34]
  refine WpC.seq (WpC.region ?_)
  try simp only [WpO_op, WpO_nil, WpO_call, WpO_guard, step, okQ_some, Opd.get, put_app, put_none, thenQ, ne_eq, reduceCtorEq, not_false_eq_true, implies_true, slcLen, Option.map_some, Option.bind_some, bin, binInt, boolQ_bool, reduceIte, Nat.reduceEqDiff, List.getD_cons_zero, List.getD_cons_succ, IntKind.signed, indexV, asNat?, loadV, cutCells, unary, evRess, evRes1, oneOrTup, freezeV, blockQ, wrapV, target, getsO, callQ_some, List.nil_append, List.append_nil, List.cons_append, boundO]
  refine WpC.seq (WpC.region ?_)
  try simp only [WpO_op, WpO_nil, WpO_call, WpO_guard, step, okQ_some, Opd.get, put_app, put_none, thenQ, ne_eq, reduceCtorEq, not_false_eq_true, implies_true, slcLen, Option.map_some, Option.bind_some, bin, binInt, boolQ_bool, reduceIte, Nat.reduceEqDiff, List.getD_cons_zero, List.getD_cons_succ, IntKind.signed, indexV, asNat?, loadV, cutCells, unary, evRess, evRes1, oneOrTup, freezeV, blockQ, wrapV, target, getsO, callQ_some, List.nil_append, List.append_nil, List.cons_append, boundO]
  by_cases hle : xs.length ≤ ys.length
  · have hd : (decide ((↑(List.map iv xs).length : Int) ≤ ↑(List.map iv ys).length)) = true := by simp; omega
    simp only [hd, reduceIte]
    try simp only [WpO_op, WpO_nil, WpO_call, WpO_guard, step, okQ_some, Opd.get, put_app, put_none, thenQ, ne_eq, reduceCtorEq, not_false_eq_true, implies_true, slcLen, Option.map_some, Option.bind_some, bin, binInt, boolQ_bool, reduceIte, Nat.reduceEqDiff, List.getD_cons_zero, List.getD_cons_succ, IntKind.signed, indexV, asNat?, loadV, cutCells, unary, evRess, evRes1, oneOrTup, freezeV, blockQ, wrapV, target, getsO, callQ_some, List.nil_append, List.append_nil, List.cons_append, boundO]
    simp only [List.length_map, Int.natCast_nonneg, if_true, Int.toNat_natCast, Option.bind_some, sliceV, Option.getD_some, Option.getD_none, Nat.zero_le, Nat.le_refl, hle, List.drop_zero, Nat.sub_zero, true_and, and_self, and_true, BEq.rfl, Bool.or_true, reduceIte, okQ_some]
    try simp only [WpO_op, WpO_nil, WpO_call, WpO_guard, step, okQ_some, Opd.get, put_app, put_none, thenQ, ne_eq, reduceCtorEq, not_false_eq_true, implies_true, slcLen, Option.map_some, Option.bind_some, bin, binInt, boolQ_bool, reduceIte, Nat.reduceEqDiff, List.getD_cons_zero, List.getD_cons_succ, IntKind.signed, indexV, asNat?, loadV, cutCells, unary, evRess, evRes1, oneOrTup, freezeV, blockQ, wrapV, target, getsO, callQ_some, List.nil_append, List.append_nil, List.cons_append, boundO]
    rw [← List.map_take]
    refine (equal_spec hX33 hF33 xs (ys.take xs.length) .any _ h hx).mono ?_
    rintro v h2 ⟨rfl, rfl⟩
    refine WpC.ret ?_
    try simp only [WpO_op, WpO_nil, WpO_call, WpO_guard, step, okQ_some, Opd.get, put_app, put_none, thenQ, ne_eq, reduceCtorEq, not_false_eq_true, implies_true, slcLen, Option.map_some, Option.bind_some, bin, binInt, boolQ_bool, reduceIte, Nat.reduceEqDiff, List.getD_cons_zero, List.getD_cons_succ, IntKind.signed, indexV, asNat?, loadV, cutCells, unary, evRess, evRes1, oneOrTup, freezeV, blockQ, wrapV, target, getsO, callQ_some, List.nil_append, List.append_nil, List.cons_append, boundO]
    refine ⟨by simp, _, rfl, 1, _, rfl, ?_, by simp⟩
    simp [hle]
  · have hd : (decide ((↑(List.map iv xs).length : Int) ≤ ↑(List.map iv ys).length)) = false := by simp; omega
    simp only [hd, reduceIte, Bool.false_eq_true]
    try simp only [WpO_op, WpO_nil, WpO_call, WpO_guard, step, okQ_some, Opd.get, put_app, put_none, thenQ, ne_eq, reduceCtorEq, not_false_eq_true, implies_true, slcLen, Option.map_some, Option.bind_some, bin, binInt, boolQ_bool, reduceIte, Nat.reduceEqDiff, List.getD_cons_zero, List.getD_cons_succ, IntKind.signed, indexV, asNat?, loadV, cutCells, unary, evRess, evRes1, oneOrTup, freezeV, blockQ, wrapV, target, getsO, callQ_some, List.nil_append, List.append_nil, List.cons_append, boundO]
    refine WpC.ret ?_
    try simp only [WpO_op, WpO_nil, WpO_call, WpO_guard, step, okQ_some, Opd.get, put_app, put_none, thenQ, ne_eq, reduceCtorEq, not_false_eq_true, implies_true, slcLen, Option.map_some, Option.bind_some, bin, binInt, boolQ_bool, reduceIte, Nat.reduceEqDiff, List.getD_cons_zero, List.getD_cons_succ, IntKind.signed, indexV, asNat?, loadV, cutCells, unary, evRess, evRes1, oneOrTup, freezeV, blockQ, wrapV, target, getsO, callQ_some, List.nil_append, List.append_nil, List.cons_append, boundO]
    refine ⟨by simp, _, rfl, 1, _, rfl, ?_, by simp⟩
    simp [hle]
end Go.Am
