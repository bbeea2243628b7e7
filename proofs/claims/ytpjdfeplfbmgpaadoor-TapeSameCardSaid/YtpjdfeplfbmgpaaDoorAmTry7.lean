import Derived.Test.YtpjdfeplfbmgpaaDoorAmTry6
set_option linter.unusedSimpArgs false
namespace Go.Am
/-- spinnaker/tape.Begins -/
def a13 : AFunc :=
  { nparams := 2, ntmps := 8, pure := true, results := [.tmp 4],
    body := (.seq (.region [⟨(some 4), .mv (.val (.sc (.bool false))), none, []⟩])
    (.seq (.region [⟨(some 5), .mv (.tmp 0), none, []⟩,
      ⟨(some 6), .mv (.tmp 1), none, []⟩,
      ⟨(some 7), .call (.val (.fn (.func 32) [] [])) [(.tmp 5), (.tmp 6), (.val (.fn (.func 34) [] []))], none, []⟩,
      ⟨(some 4), .mv (.tmp 7), none, []⟩])
    .ret)) }


theorem begins_spec {S : Fns} {base : Nat} {f : FuncId} (hX : S.X f = none) (hF : S.F f = some a13) (hX32 : S.X 32 = none) (hF32 : S.F 32 = some a32) (hX34 : S.X 34 = none) (hF34 : S.F 34 = some a34) (hX33 : S.X 33 = none) (hF33 : S.F 33 = some a33)
    (xs ys : List (List Int)) (ex ey : Cp) (h : Heap) (hx : xs.length < 2 ^ 63) (hl : ∀ a ∈ xs, a.length < 2 ^ 63) :
    WpF S base f [.slc ex 1 (xs.map rv), .slc ey 1 (ys.map rv)] h fun v h' => v = .bool (xs.length == ys.length && (xs.zip ys).all fun q => decide (q.1.length ≤ q.2.length ∧ q.1 = q.2.take q.1.length)) ∧ h' = h := by
  refine WpF.bodyPure hX hF rfl rfl ?_
  simp only [a13]
  refine WpC.seq (WpC.region ?_)
  try simp only [WpO_op, WpO_nil, WpO_call, WpO_guard, step, okQ_some, Opd.get, put_app, put_none, thenQ, ne_eq, reduceCtorEq, not_false_eq_true, implies_true, slcLen, Option.map_some, Option.bind_some, bin, binInt, boolQ_bool, reduceIte, Nat.reduceEqDiff, List.getD_cons_zero, List.getD_cons_succ, IntKind.signed, indexV, asNat?, loadV, cutCells, unary, evRess, evRes1, oneOrTup, freezeV, blockQ, wrapV, target, getsO, callQ_some, List.nil_append, List.append_nil, List.cons_append]
  refine WpC.seq (WpC.region ?_)
  try simp only [WpO_op, WpO_nil, WpO_call, WpO_guard, step, okQ_some, Opd.get, put_app, put_none, thenQ, ne_eq, reduceCtorEq, not_false_eq_true, implies_true, slcLen, Option.map_some, Option.bind_some, bin, binInt, boolQ_bool, reduceIte, Nat.reduceEqDiff, List.getD_cons_zero, List.getD_cons_succ, IntKind.signed, indexV, asNat?, loadV, cutCells, unary, evRess, evRes1, oneOrTup, freezeV, blockQ, wrapV, target, getsO, callQ_some, List.nil_append, List.append_nil, List.cons_append]
  refine (equalFunc_spec hX32 hF32 (fun a b => decide (a.length ≤ b.length ∧ a = b.take a.length)) xs ys ex ey h hx fun base a b ha hb => begins1_spec hX34 hF34 hX33 hF33 a b h (hl a ha)).mono ?_
  rintro v h2 ⟨rfl, rfl⟩
  try simp only [WpO_op, WpO_nil, WpO_call, WpO_guard, step, okQ_some, Opd.get, put_app, put_none, thenQ, ne_eq, reduceCtorEq, not_false_eq_true, implies_true, slcLen, Option.map_some, Option.bind_some, bin, binInt, boolQ_bool, reduceIte, Nat.reduceEqDiff, List.getD_cons_zero, List.getD_cons_succ, IntKind.signed, indexV, asNat?, loadV, cutCells, unary, evRess, evRes1, oneOrTup, freezeV, blockQ, wrapV, target, getsO, callQ_some, List.nil_append, List.append_nil, List.cons_append]
  refine WpC.ret ?_
  try simp only [WpO_op, WpO_nil, WpO_call, WpO_guard, step, okQ_some, Opd.get, put_app, put_none, thenQ, ne_eq, reduceCtorEq, not_false_eq_true, implies_true, slcLen, Option.map_some, Option.bind_some, bin, binInt, boolQ_bool, reduceIte, Nat.reduceEqDiff, List.getD_cons_zero, List.getD_cons_succ, IntKind.signed, indexV, asNat?, loadV, cutCells, unary, evRess, evRes1, oneOrTup, freezeV, blockQ, wrapV, target, getsO, callQ_some, List.nil_append, List.append_nil, List.cons_append]
  exact ⟨by simp, _, rfl, 1, _, rfl, rfl, by simp⟩
end Go.Am
