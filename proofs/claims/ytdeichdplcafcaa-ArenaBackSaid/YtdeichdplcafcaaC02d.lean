/- Part of the proof: contracts of the program's functions. -/
import Derived.Test.YtdeichdplcafcaaC02c
set_option linter.unusedSimpArgs false
set_option linter.unusedVariables false
namespace Pi
/-- What is right is so, kid by kid. -/
theorem right_kid {l : L} {p q d : Int} (h : rightS l p q d = true) : 0 < d ∧ (l.kids.length : Int) = kidsS l.kind ∧ namedS l p q = true ∧ ∀ k ∈ l.kids, rightS k p q (d - 1) = true := by
  rw [rightS_eq] at h
  simp only [Bool.and_eq_true, decide_eq_true_eq, Bool.not_eq_true', List.any_eq_false, Bool.not_eq_false] at h
  exact ⟨h.1.1.1, h.1.1.2, h.1.2, h.2⟩
end Pi

