/- Laws of layer 4: arenas by numbers. -/
import Derived.Test.YtdeichdplcafcaaC04l
set_option linter.unusedSimpArgs false
set_option linter.unusedVariables false
namespace Pi
/-- What Put makes of an arena. -/
def putA (l : List N) (k : L) : List N := if rightN l = true ∧ RightS k 5 10 = true ∧ (putN k l).1.length ≤ 1000 then (putN k l).1 else l
/-- The arena of some lists of numbers. -/
def arenaT (ls : List (List Nat)) : Nat → List N
  | 0 => []
  | i + 1 => putA (arenaT ls i) (madeS (ls.getD i []) 5 10)
end Pi

