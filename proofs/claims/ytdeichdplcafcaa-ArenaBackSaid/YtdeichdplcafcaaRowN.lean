/- Arenas as a law's arguments. -/
import Derived.Test.YtdeichdplcafcaaRow
import Derived.Test.YtdeichdplcafcaaEncN
set_option linter.unusedSimpArgs false
set_option linter.unusedVariables false
namespace Pi
open Go (TypeId Program)
section
variable {P : Program} {n : Nat} {t e : TypeId}
theorem p_bytes {b : TypeId} (hu : P.underlying e = some (.slice b)) (he : P.underlying b = some (.int .u8)) (m : Nat) (p : List V) (h : Tv P m e p) : ∃ a : List Nat, p = cY a ∧ (a.length ≤ 9223372036854775807 ∧ Byt a) := by
  obtain ⟨l, rfl, hl, hQ⟩ := tv_sl hu (fun m p hp hm => p_u8 he m p hp) h
  exact ⟨l, rfl, by omega, hQ⟩
theorem a_bytess {b : TypeId} (hs : P.underlying t = some (.slice e)) (hu : P.underlying e = some (.slice b)) (he : P.underlying b = some (.int .u8)) {v : V} (h : TvA P n t v) :
    ∃ l : List (List Nat), v = sV cY l ∧ l.length ≤ 9223372036854775807 ∧ ∀ a ∈ l, a.length ≤ 9223372036854775807 ∧ Byt a := by
  obtain ⟨l, h1, h2, h3⟩ := a_sl hs (p_bytes hu he) h
  exact ⟨l, h1, by omega, h3⟩
end
end Pi

