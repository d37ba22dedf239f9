/- Lists that are read, lists of clauses that lie in memory. -/
import Derived.Test.YtdeichdplcafcaaEncC
import Derived.Test.YtdeichdplcafcaaFw4
set_option linter.unusedSimpArgs false
set_option linter.unusedVariables false
namespace Pi
section
variable {α : Type} {f : α → List V} {k : Nat}
end
theorem IfK_pos {p a b : Prop} (h : p) : IfK p a b = a := by simp [IfK, h]
end Pi

