/- Numbers of two bytes as a law's arguments. -/
import Derived.Test.YtndjnkbjmddhiaaRow
set_option linter.unusedSimpArgs false
set_option linter.unusedVariables false
namespace Pi
open Go (TypeId Program)
theorem a_u16 {P : Program} {t : TypeId} {n : Nat} (hu : P.underlying t = some (.int .u16)) {v : V} (h : TvA P n t v) : ∃ x : Nat, v = .i .u16 x ∧ x < 65536 := by
  obtain ⟨x, rfl, hw⟩ := a_int hu h
  simp [Go.Lit.wf, Go.IntKind.min, Go.IntKind.max, Go.IntKind.signed, Go.IntKind.bits] at hw
  exact ⟨x.toNat, by simp; omega, by omega⟩
end Pi
