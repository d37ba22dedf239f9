/- Contracts: the least model (layer 9): From, on both sides; the laws' told, awake, clauses by numbers. -/
import Derived.Test.YtfdkpnckflmcaaaC09e
import Derived.Test.YtfdkpnckflmcaaaC08i
set_option linter.unusedSimpArgs false
set_option linter.unusedVariables false
namespace Pi
/-- What From tells. -/
def fromV (l : List C) (m : List Int) : V :=
  if rightC m.length l = false ∨ m.any oddN = true then .tu [sV cI [], .b false, .i .i64 1]
  else if 1000 < maxL m then .tu [sV cI [], .b false, .i .i64 2]
  else .tu [sV cI (lmC l m (limC m.length l (maxL m))).1, .b (lmC l m (limC m.length l (maxL m))).2.1, .i .i64 0]
theorem max_small {m : List Int} (h : Nats m) : SmallM (maxL m) m := by
  obtain ⟨h1, h2, h3⟩ := fold_mx m 0
  intro i
  by_cases hi : i < m.length
  · rw [getD_get _ _ hi]
    have := h _ (List.getElem_mem hi)
    have := h2 _ (List.getElem_mem hi)
    unfold maxL
    omega
  · simp [List.getElem?_eq_none (by omega : m.length ≤ i)]
    exact h1
theorem solveV_tu (vars : Int) (l : List C) : ∃ a b c d, solveV vars l = .tu [sV cI a, .b b, .i .i64 c, .i .i64 d] ∧ a.length ≤ 16 := by
  unfold solveV
  split
  · rename_i h
    obtain ⟨r1, r2, r3, r4⟩ := right_ok h
    refine ⟨_, _, _, _, rfl, ?_⟩
    have r4' : ∀ c ∈ l, okC vars.toNat c = true := fun c hc => okC_mono (by omega) (r4 c hc)
    rcases solve_spec (n := vars.toNat) (l := l) (by omega) r4' with ⟨_, h2, _⟩ | ⟨_, h2, _⟩
    · rw [h2.len, noughts_len]; omega
    · rw [h2]; simp
  · exact ⟨_, _, _, _, rfl, by simp⟩
theorem fromV_tu (l : List C) (m : List Int) : ∃ a b c, fromV l m = .tu [sV cI a, .b b, .i .i64 c] ∧ a.length ≤ 16 := by
  unfold fromV
  split
  · exact ⟨_, _, _, rfl, by simp⟩
  · split
    · exact ⟨_, _, _, rfl, by simp⟩
    · rename_i h1 h2
      have hR : rightC m.length l = true := by simpa using fun e => h1 (.inl e)
      have hN : Nats m := nats_iff.1 (by simpa using fun e => h1 (.inr e))
      obtain ⟨r1, r2, r3, r4⟩ := right_ok hR
      refine ⟨_, _, _, rfl, ?_⟩
      rcases lm_spec (l := l) (frm := m) (F := maxL m) (by omega) r4 (fun i _ => max_small hN i) with ⟨_, h2, _⟩ | ⟨_, h2, _⟩
      · rw [h2.len]; omega
      · rw [h2]; simp
end Pi
