/- Part of the proof: contracts of the program's functions. -/
import Derived.Test.YtdeichdplcafcaaC02e
set_option linter.unusedSimpArgs false
set_option linter.unusedVariables false
namespace Pi
end Pi

