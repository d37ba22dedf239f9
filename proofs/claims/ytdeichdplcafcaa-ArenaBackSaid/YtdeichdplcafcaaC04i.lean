/- Contracts: arenas (layer 4): Put as the document has it. -/
import Derived.Test.YtdeichdplcafcaaC04h
set_option linter.unusedSimpArgs false
set_option linter.unusedVariables false
namespace Pi
def putV (l : List N) (k : L) : V :=
  if rightN l = true ∧ RightS k 5 10 = true then
    (if (putN k l).1.length ≤ 1000 then .tu [.ag [sV cN (putN k l).1], .i .i64 (putN k l).2, .i .i64 0] else .tu [.ag [sV cN l], .i .i64 0, .i .i64 2])
  else .tu [.ag [sV cN l], .i .i64 0, .i .i64 1]
theorem RightS_d {k : L} (h : RightS k 5 10 = true) : rightS k 5 10 (12 : Nat) = true := by
  unfold RightS at h
  split at h
  · cases h
  · simp only [Bool.and_eq_true] at h
    exact h.2
end Pi

