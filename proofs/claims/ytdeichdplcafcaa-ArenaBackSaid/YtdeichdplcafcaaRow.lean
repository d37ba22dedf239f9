/- What the laws' arguments are: bytes, numbers, levels, clauses. -/
import Derived.Test.YtdeichdplcafcaaFw3
import Derived.Test.YtdeichdplcafcaaEnc
set_option linter.unusedSimpArgs false
set_option linter.unusedVariables false
namespace Pi
open Go (TypeId Program)
section
variable {P : Program} {n : Nat} {t e : TypeId}
theorem p_u8 (hu : P.underlying e = some (.int .u8)) (m : Nat) (p : List V) (h : Tv P m e p) : ∃ a : Nat, p = cU a ∧ a < 256 := by
  obtain ⟨x, rfl, hw⟩ := tv_int hu h
  have := wf_u8 hw
  exact ⟨x.toNat, by simp [cU]; omega, by omega⟩
end
end Pi

