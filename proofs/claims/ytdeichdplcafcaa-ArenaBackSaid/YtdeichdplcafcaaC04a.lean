/- Contracts: arenas (layer 4): which nodes fit. -/
import Derived.Test.YtdeichdplcafcaaEncN
set_option linter.unusedSimpArgs false
set_option linter.unusedVariables false
namespace Pi
theorem arena_kids.a (k : Int) : Ans ctx arena_kids.n [.i .i64 k] (.i .i64 (kidsS k)) := by
  refine ans arena_kids.f ?_
  rcases kidsS_cases k with ⟨e, h⟩ | ⟨e, h⟩ | ⟨e, h⟩ | ⟨e, h⟩
  · rcases h with h | h | h <;> simp +contextual (disch := omega) [Nat.add_assoc, Int.add_assoc, if_pos, if_neg, -Int.not_lt, -Int.not_le, -Nat.not_lt, -Nat.not_le, -List.length_flatMap, arena_kids.c, h] <;> rfl
  · simp +contextual (disch := omega) [Nat.add_assoc, Int.add_assoc, if_pos, if_neg, -Int.not_lt, -Int.not_le, -Nat.not_lt, -Nat.not_le, -List.length_flatMap, arena_kids.c, h] ; rfl
  · rcases h with h | h <;> simp +contextual (disch := omega) [Nat.add_assoc, Int.add_assoc, if_pos, if_neg, -Int.not_lt, -Int.not_le, -Nat.not_lt, -Nat.not_le, -List.length_flatMap, arena_kids.c, h] <;> rfl
  · simp +contextual (disch := omega) [Nat.add_assoc, Int.add_assoc, if_pos, if_neg, -Int.not_lt, -Int.not_le, -Nat.not_lt, -Nat.not_le, -List.length_flatMap, arena_kids.c, h, e]
theorem arena_fits.a (x : N) (at_ : Int) : Ans ctx arena_fits.n [.ag (cN x), .i .i64 at_] (.b (fitN x at_)) := by
  have hk := arena_kids.a x.kind
  obtain ⟨R, hR⟩ : ∃ R, R = fitN x at_ := ⟨_, rfl⟩
  rw [← hR]
  obtain ⟨vs, hvs⟩ : ∃ vs, vs = [V.ag (cN x), .i .i64 at_] := ⟨_, rfl⟩
  rw [← hvs]
  refine ans arena_fits.f ?_
  unfold fitN mostN at hR
  have fin : ∀ p q : Prop, ∀ [Decidable p] [Decidable q], (p ↔ q) → decide p = decide q := fun p q _ _ h => by rw [decide_eq_decide]; exact h
  rcases kidsS_cases x.kind with ⟨e, h⟩ | ⟨e, h⟩ | ⟨e, h⟩ | ⟨e, h⟩
  · rw [e] at hk hR
    simp +contextual (disch := omega) [Nat.add_assoc, Int.add_assoc, if_pos, if_neg, -Int.not_lt, -Int.not_le, -Nat.not_lt, -Nat.not_le, -List.length_flatMap, arena_fits.c, hvs, ansK hk]
    by_cases a0 : x.a = 0
    · by_cases b0 : x.b = 0
      · refine un_w ?_
        simp +contextual (disch := omega) [Nat.add_assoc, Int.add_assoc, if_pos, if_neg, -Int.not_lt, -Int.not_le, -Nat.not_lt, -Nat.not_le, -List.length_flatMap, arena_fits.b1, a0]
        refine un_w ?_
        simp +contextual (disch := omega) [Nat.add_assoc, Int.add_assoc, if_pos, if_neg, -Int.not_lt, -Int.not_le, -Nat.not_lt, -Nat.not_le, -List.length_flatMap, arena_fits.b1, a0, b0]
        refine un_w ?_
        rcases h with h | h | h <;> by_cases n0 : 0 ≤ x.n <;> simp [a0, b0, h, n0] at hR
        all_goals simp +contextual (disch := omega) [Nat.add_assoc, Int.add_assoc, if_pos, if_neg, -Int.not_lt, -Int.not_le, -Nat.not_lt, -Nat.not_le, -List.length_flatMap, arena_fits.b1, a0, b0, h, n0, hR]
        all_goals omega
      · simp [a0, b0] at hR
        refine un_w ?_
        simp +contextual (disch := omega) [Nat.add_assoc, Int.add_assoc, if_pos, if_neg, -Int.not_lt, -Int.not_le, -Nat.not_lt, -Nat.not_le, -List.length_flatMap, arena_fits.b1, a0]
        refine un_w ?_
        simp +contextual (disch := omega) [Nat.add_assoc, Int.add_assoc, if_pos, if_neg, -Int.not_lt, -Int.not_le, -Nat.not_lt, -Nat.not_le, -List.length_flatMap, arena_fits.b1, a0, b0, hR]
    · simp [a0] at hR
      refine un_w ?_
      simp +contextual (disch := omega) [Nat.add_assoc, Int.add_assoc, if_pos, if_neg, -Int.not_lt, -Int.not_le, -Nat.not_lt, -Nat.not_le, -List.length_flatMap, arena_fits.b1, a0, hR]
  · rw [e] at hk hR
    simp +contextual (disch := omega) [Nat.add_assoc, Int.add_assoc, if_pos, if_neg, -Int.not_lt, -Int.not_le, -Nat.not_lt, -Nat.not_le, -List.length_flatMap, arena_fits.c, hvs, ansK hk]
    by_cases a0 : 0 ≤ x.a ∧ x.a < at_
    · by_cases b0 : x.b = 0
      · refine un_w ?_
        simp +contextual (disch := omega) [Nat.add_assoc, Int.add_assoc, if_pos, if_neg, -Int.not_lt, -Int.not_le, -Nat.not_lt, -Nat.not_le, -List.length_flatMap, arena_fits.b1, a0.1, a0.2]
        refine un_w ?_
        simp +contextual (disch := omega) [Nat.add_assoc, Int.add_assoc, if_pos, if_neg, -Int.not_lt, -Int.not_le, -Nat.not_lt, -Nat.not_le, -List.length_flatMap, arena_fits.b1, b0]
        refine un_w ?_
        by_cases n0 : 0 ≤ x.n <;> simp [a0, b0, h, n0] at hR
        all_goals simp +contextual (disch := omega) [Nat.add_assoc, Int.add_assoc, if_pos, if_neg, -Int.not_lt, -Int.not_le, -Nat.not_lt, -Nat.not_le, -List.length_flatMap, arena_fits.b1, b0, h, n0, hR]
        all_goals omega
      · simp [a0, b0] at hR
        refine un_w ?_
        simp +contextual (disch := omega) [Nat.add_assoc, Int.add_assoc, if_pos, if_neg, -Int.not_lt, -Int.not_le, -Nat.not_lt, -Nat.not_le, -List.length_flatMap, arena_fits.b1, a0.1, a0.2]
        refine un_w ?_
        simp +contextual (disch := omega) [Nat.add_assoc, Int.add_assoc, if_pos, if_neg, -Int.not_lt, -Int.not_le, -Nat.not_lt, -Nat.not_le, -List.length_flatMap, arena_fits.b1, b0, hR]
    · have : x.a < 0 ∨ (0 ≤ x.a ∧ at_ ≤ x.a) := by omega
      have hR0 : R = false := by rw [hR]; rcases this with h1 | h1 <;> simp <;> omega
      refine un_w ?_
      rcases this with h1 | h1
      · simp +contextual (disch := omega) [Nat.add_assoc, Int.add_assoc, if_pos, if_neg, -Int.not_lt, -Int.not_le, -Nat.not_lt, -Nat.not_le, -List.length_flatMap, arena_fits.b1, h1, hR0]
      · simp +contextual (disch := omega) [Nat.add_assoc, Int.add_assoc, if_pos, if_neg, -Int.not_lt, -Int.not_le, -Nat.not_lt, -Nat.not_le, -List.length_flatMap, arena_fits.b1, h1.1, h1.2, hR0]
  · rw [e] at hk hR
    simp +contextual (disch := omega) [Nat.add_assoc, Int.add_assoc, if_pos, if_neg, -Int.not_lt, -Int.not_le, -Nat.not_lt, -Nat.not_le, -List.length_flatMap, arena_fits.c, hvs, ansK hk]
    by_cases a0 : 0 ≤ x.a ∧ x.a < at_
    · by_cases b0 : 0 ≤ x.b ∧ x.b < at_
      · refine un_w ?_
        simp +contextual (disch := omega) [Nat.add_assoc, Int.add_assoc, if_pos, if_neg, -Int.not_lt, -Int.not_le, -Nat.not_lt, -Nat.not_le, -List.length_flatMap, arena_fits.b1, a0.1, a0.2]
        refine un_w ?_
        simp +contextual (disch := omega) [Nat.add_assoc, Int.add_assoc, if_pos, if_neg, -Int.not_lt, -Int.not_le, -Nat.not_lt, -Nat.not_le, -List.length_flatMap, arena_fits.b1, b0.1, b0.2]
        refine un_w ?_
        rcases h with h | h <;> by_cases n0 : 0 ≤ x.n <;> simp [a0, b0, h, n0] at hR
        all_goals simp +contextual (disch := omega) [Nat.add_assoc, Int.add_assoc, if_pos, if_neg, -Int.not_lt, -Int.not_le, -Nat.not_lt, -Nat.not_le, -List.length_flatMap, arena_fits.b1, h, n0, hR]
        all_goals omega
      · have : x.b < 0 ∨ (0 ≤ x.b ∧ at_ ≤ x.b) := by omega
        have hR0 : R = false := by rw [hR]; rcases this with h1 | h1 <;> simp <;> omega
        refine un_w ?_
        simp +contextual (disch := omega) [Nat.add_assoc, Int.add_assoc, if_pos, if_neg, -Int.not_lt, -Int.not_le, -Nat.not_lt, -Nat.not_le, -List.length_flatMap, arena_fits.b1, a0.1, a0.2]
        refine un_w ?_
        rcases this with h1 | h1
        · simp +contextual (disch := omega) [Nat.add_assoc, Int.add_assoc, if_pos, if_neg, -Int.not_lt, -Int.not_le, -Nat.not_lt, -Nat.not_le, -List.length_flatMap, arena_fits.b1, h1, hR0]
        · simp +contextual (disch := omega) [Nat.add_assoc, Int.add_assoc, if_pos, if_neg, -Int.not_lt, -Int.not_le, -Nat.not_lt, -Nat.not_le, -List.length_flatMap, arena_fits.b1, h1.1, h1.2, hR0]
    · have : x.a < 0 ∨ (0 ≤ x.a ∧ at_ ≤ x.a) := by omega
      have hR0 : R = false := by rw [hR]; rcases this with h1 | h1 <;> simp <;> omega
      refine un_w ?_
      rcases this with h1 | h1
      · simp +contextual (disch := omega) [Nat.add_assoc, Int.add_assoc, if_pos, if_neg, -Int.not_lt, -Int.not_le, -Nat.not_lt, -Nat.not_le, -List.length_flatMap, arena_fits.b1, h1, hR0]
      · simp +contextual (disch := omega) [Nat.add_assoc, Int.add_assoc, if_pos, if_neg, -Int.not_lt, -Int.not_le, -Nat.not_lt, -Nat.not_le, -List.length_flatMap, arena_fits.b1, h1.1, h1.2, hR0]
  · rw [e] at hk hR
    have hR0 : R = false := by rw [hR]; simp
    simp +contextual (disch := omega) [Nat.add_assoc, Int.add_assoc, if_pos, if_neg, -Int.not_lt, -Int.not_le, -Nat.not_lt, -Nat.not_le, -List.length_flatMap, arena_fits.c, hvs, ansK hk]
    by_cases a0 : x.a = 0
    · by_cases b0 : x.b = 0
      · refine un_w ?_
        simp +contextual (disch := omega) [Nat.add_assoc, Int.add_assoc, if_pos, if_neg, -Int.not_lt, -Int.not_le, -Nat.not_lt, -Nat.not_le, -List.length_flatMap, arena_fits.b1, a0]
        refine un_w ?_
        simp +contextual (disch := omega) [Nat.add_assoc, Int.add_assoc, if_pos, if_neg, -Int.not_lt, -Int.not_le, -Nat.not_lt, -Nat.not_le, -List.length_flatMap, arena_fits.b1, b0]
        refine un_w ?_
        simp +contextual (disch := omega) [Nat.add_assoc, Int.add_assoc, if_pos, if_neg, -Int.not_lt, -Int.not_le, -Nat.not_lt, -Nat.not_le, -List.length_flatMap, arena_fits.b1, h, hR0]
      · refine un_w ?_
        simp +contextual (disch := omega) [Nat.add_assoc, Int.add_assoc, if_pos, if_neg, -Int.not_lt, -Int.not_le, -Nat.not_lt, -Nat.not_le, -List.length_flatMap, arena_fits.b1, a0]
        refine un_w ?_
        simp +contextual (disch := omega) [Nat.add_assoc, Int.add_assoc, if_pos, if_neg, -Int.not_lt, -Int.not_le, -Nat.not_lt, -Nat.not_le, -List.length_flatMap, arena_fits.b1, b0, hR0]
    · refine un_w ?_
      simp +contextual (disch := omega) [Nat.add_assoc, Int.add_assoc, if_pos, if_neg, -Int.not_lt, -Int.not_le, -Nat.not_lt, -Nat.not_le, -List.length_flatMap, arena_fits.b1, a0, hR0]
end Pi

