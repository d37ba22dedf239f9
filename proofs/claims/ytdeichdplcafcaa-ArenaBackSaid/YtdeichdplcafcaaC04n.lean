/- Laws of layer 4: arenas that are deep, or great. -/
import Derived.Test.YtdeichdplcafcaaC04m
set_option linter.unusedSimpArgs false
set_option linter.unusedVariables false
namespace Pi
end Pi

