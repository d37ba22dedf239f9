/- Laws of layer 4: any arenas. -/
import Derived.Test.YtdeichdplcafcaaC04k
import Derived.Test.YtdeichdplcafcaaC02h
set_option linter.unusedSimpArgs false
set_option linter.unusedVariables false
namespace Pi
set_option maxRecDepth 100000 in
theorem law04_awake.a : Ans ctx law04_awake.n [] (.b true) := ans_told (n := 1500) (by kernel_rfl)
end Pi

