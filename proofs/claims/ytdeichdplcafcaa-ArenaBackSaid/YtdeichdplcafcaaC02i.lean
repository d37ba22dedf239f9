/- Part of the proof: contracts of the program's functions. -/
import Derived.Test.YtdeichdplcafcaaC02k
set_option linter.unusedSimpArgs false
set_option linter.unusedVariables false
namespace Pi
theorem madeS_right (l : List Nat) (p q : Nat) : rightS (madeS l p q) p q 5 = true := by
  have := mkS_right l p q 4 0
  simpa [madeS] using this
theorem madeS_sz (l : List Nat) (p q : Nat) : szL (madeS l p q) ≤ 31 := by
  have := mkS_sz l p q 4 0
  simp at this
  unfold madeS
  omega
theorem RightS_of {l : L} {p q : Nat} (hp : p ≤ 5) (hq : q ≤ 10) (hz : szL l ≤ 100) (h : rightS l p q 12 = true) : RightS l p q = true := by
  unfold RightS
  have := nodesS_le l 101
  rw [if_neg (by omega)]
  simp [h]
  omega
end Pi

