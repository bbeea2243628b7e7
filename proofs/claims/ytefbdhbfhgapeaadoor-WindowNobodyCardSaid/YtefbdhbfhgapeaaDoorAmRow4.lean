/- Am: arguments of one cell. -/
import Derived.Test.YtefbdhbfhgapeaaDoorAmRow3
namespace Go.Am
section
variable {P : Program} {W : World} {r : Go.Reach} {base : Nat} {t : TypeId} {v : Value}
theorem cells_slice {e : TypeId} (ht : P.underlying t = some (.slice e)) (h : Value.okWide P W r base t v) : v.cells.toList = [v] := by
  unfold Value.okWide Cell.okWide Cell.ok at h
  simp only [ht] at h
  cases v <;> simp_all [Value.cells]
theorem cells_int {k : IntKind} (ht : P.underlying t = some (.int k)) (h : Value.okWide P W r base t v) : v.cells.toList = [v] := by
  unfold Value.okWide Cell.okWide Cell.ok at h
  simp only [ht] at h
  cases v <;> simp_all [Value.cells]
theorem cells_string (ht : P.underlying t = some .string) (h : Value.okWide P W r base t v) : v.cells.toList = [v] := by
  unfold Value.okWide Cell.okWide Cell.ok at h
  simp only [ht] at h
  cases v <;> simp_all [Value.cells]
end
end Go.Am
