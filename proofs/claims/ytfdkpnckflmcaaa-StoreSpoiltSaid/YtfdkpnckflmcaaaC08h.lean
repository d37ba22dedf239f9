/- Laws of layer 8: what any program answers; told; any clauses; by numbers. -/
import Derived.Test.YtfdkpnckflmcaaaC08g
set_option linter.unusedSimpArgs false
set_option linter.unusedVariables false
namespace Pi
theorem brokenS_tu (l : List C) (model : List Int) : ∃ a b, brokenS l model = .tu [sV cI a, .i .i64 b] ∧ a.length ≤ 60 := by
  unfold brokenS
  split
  · exact ⟨_, _, rfl, by simp⟩
  · rename_i h
    have h1 : rightC model.length l = true := by simpa using fun e => h (.inl e)
    obtain ⟨r1, r2, r3, r4⟩ := right_ok h1
    exact ⟨_, _, rfl, Nat.le_trans (placesS_len _ _) r3⟩
theorem mostV_tu (vars : Int) (l : List C) : ∃ a b, mostV vars l = .tu [.i .i64 a, .i .i64 b] := by
  unfold mostV
  split <;> exact ⟨_, _, rfl⟩
theorem namesV_tu (vars : Int) (l : List C) : ∃ a b, namesV vars l = .tu [sV cI a, .i .i64 b] ∧ a.length ≤ 16 := by
  unfold namesV
  split
  · rename_i h
    obtain ⟨r1, r2, r3, r4⟩ := right_ok h
    exact ⟨_, _, rfl, Nat.le_trans (places_rl _ _) (by omega)⟩
  · exact ⟨_, _, rfl, by simp⟩
end Pi
