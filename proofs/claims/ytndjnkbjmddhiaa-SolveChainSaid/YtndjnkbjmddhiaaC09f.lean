/- Contracts: the least model (layer 9): From, on both sides; the laws' told, awake, clauses by numbers. -/
import Derived.Test.YtndjnkbjmddhiaaC09e
import Derived.Test.YtndjnkbjmddhiaaC08i
set_option linter.unusedSimpArgs false
set_option linter.unusedVariables false
namespace Pi
/-- What From tells. -/
def fromV (l : List C) (m : List Int) : V :=
  if rightC m.length l = false ∨ m.any oddN = true then .tu [sV cI [], .b false, .i .i64 1]
  else if 1000 < maxL m then .tu [sV cI [], .b false, .i .i64 2]
  else .tu [sV cI (lmC l m (limC m.length l (maxL m))).1, .b (lmC l m (limC m.length l (maxL m))).2.1, .i .i64 0]
theorem max_small {m : List Int} (h : Nats m) : SmallM (maxL m) m := by
  obtain ⟨h1, h2, h3⟩ := fold_mx m 0
  intro i
  by_cases hi : i < m.length
  · rw [getD_get _ _ hi]
    have := h _ (List.getElem_mem hi)
    have := h2 _ (List.getElem_mem hi)
    unfold maxL
    omega
  · simp [List.getElem?_eq_none (by omega : m.length ≤ i)]
    exact h1
theorem solve_From.a (l : List C) (m : List Int) (hl : l.length ≤ 9223372036854775807) (hf : ∀ c ∈ l, c.frm.length ≤ 9223372036854775807) (hm : m.length ≤ 9223372036854775807) : Ans ctx solve_From.n [sV cC l, sV cI m] (fromV l m) := by
  refine ans solve_From.f ?_
  have hB := horn_Broken.a l m hl hf hm
  unfold fromV
  unfold brokenS at hB
  by_cases h1 : rightC m.length l = false ∨ m.any oddN = true
  · rw [if_pos h1] at hB ⊢
    simp +contextual (disch := omega) [Nat.add_assoc, Int.add_assoc, if_pos, if_neg, -Int.not_lt, -Int.not_le, -Nat.not_lt, -Nat.not_le, -List.length_flatMap, solve_From.c, ansK hB]
  · rw [if_neg h1] at hB ⊢
    have hR : rightC m.length l = true := by simpa using fun e => h1 (.inl e)
    have hN : Nats m := nats_iff.1 (by simpa using fun e => h1 (.inr e))
    obtain ⟨r1, r2, r3, r4⟩ := right_ok hR
    have hne : m ≠ [] := by intro h; rw [h] at r1; simp at r1
    have hmx := slices_Max_int.a hN (by omega) hne
    have hsm := max_small hN
    have h0 := (hsm 0).1
    have h0' := (hsm 0).2
    by_cases h2 : 1000 < maxL m
    · rw [if_pos h2]
      simp +contextual (disch := omega) [Nat.add_assoc, Int.add_assoc, if_pos, if_neg, -Int.not_lt, -Int.not_le, -Nat.not_lt, -Nat.not_le, -List.length_flatMap, solve_From.c, ansK hB, ansK hmx]
    · rw [if_neg h2]
      have hb := mostS_bd r4
      have b1 : 0 ≤ ((m.length : Int) - 1) * mostS l := Int.mul_nonneg (by omega) hb.1
      have b2 : ((m.length : Int) - 1) * mostS l ≤ 15 * 1000 := Int.mul_le_mul (by omega) hb.2 hb.1 (by omega)
      have hR2 := solve_run.a (l := l) (frm := m) (most := maxL m + ((m.length : Int) - 1) * mostS l) r3 (by omega) r4 (by omega) (hsm.mono (by omega))
      rw [runV] at hR2
      simp +contextual (disch := omega) [Nat.add_assoc, Int.add_assoc, if_pos, if_neg, -Int.not_lt, -Int.not_le, -Nat.not_lt, -Nat.not_le, -List.length_flatMap, solve_From.c, ansK hB, ansK hmx, ansK (solve_limit.a hR), ansK hR2, limC]
theorem ref09_From.a (l : List C) (m : List Int) (hl : l.length ≤ 9223372036854775807) (hf : ∀ c ∈ l, c.frm.length ≤ 9223372036854775807) (hm : m.length ≤ 9223372036854775807) : Ans ctx ref09_From.n [sV cC l, sV cI m] (fromV l m) := by
  refine ans ref09_From.f ?_
  have hB := ref08_Broken.a l m hl hf hm
  unfold fromV
  unfold brokenS at hB
  by_cases h1 : rightC m.length l = false ∨ m.any oddN = true
  · rw [if_pos h1] at hB ⊢
    simp +contextual (disch := omega) [Nat.add_assoc, Int.add_assoc, if_pos, if_neg, -Int.not_lt, -Int.not_le, -Nat.not_lt, -Nat.not_le, -List.length_flatMap, ref09_From.c, ansK hB]
  · rw [if_neg h1] at hB ⊢
    have hR : rightC m.length l = true := by simpa using fun e => h1 (.inl e)
    have hN : Nats m := nats_iff.1 (by simpa using fun e => h1 (.inr e))
    obtain ⟨r1, r2, r3, r4⟩ := right_ok hR
    have hsm := max_small hN
    have h0 := (hsm 0).1
    have h0' := (hsm 0).2
    simp +contextual (disch := omega) [Nat.add_assoc, Int.add_assoc, if_pos, if_neg, -Int.not_lt, -Int.not_le, -Nat.not_lt, -Nat.not_le, -List.length_flatMap, ref09_From.c, ansK hB]
    refine for_w (fun i e m' x => e 0 = sV cC l ∧ e 1 = sV cI m ∧ e 9 = .i .i64 (maxL (m.take i)) ∧ e 10 = .i .i64 i) m.length ?_ ?_ ?_
    · have e0 : maxL [] = 0 := rfl
      simp +contextual (disch := omega) [Nat.add_assoc, Int.add_assoc, if_pos, if_neg, -Int.not_lt, -Int.not_le, -Nat.not_lt, -Nat.not_le, -List.length_flatMap, e0]
    · rintro i e m' x hi ⟨g1, g2, g3, g4⟩
      simp +contextual (disch := omega) [Nat.add_assoc, Int.add_assoc, if_pos, if_neg, -Int.not_lt, -Int.not_le, -Nat.not_lt, -Nat.not_le, -List.length_flatMap, ref09_From.b1, g1, g2, g3, g4, hi, maxL_take hi]
    · rintro e m' x ⟨g1, g2, g3, g4⟩
      rw [List.take_length] at g3
      by_cases h2 : 1000 < maxL m
      · rw [if_pos h2]
        simp +contextual (disch := omega) [Nat.add_assoc, Int.add_assoc, if_pos, if_neg, -Int.not_lt, -Int.not_le, -Nat.not_lt, -Nat.not_le, -List.length_flatMap, ref09_From.b1, g1, g2, g3, g4]
      · rw [if_neg h2]
        have hb := mostS_bd r4
        have b1 : 0 ≤ ((m.length : Int) - 1) * mostS l := Int.mul_nonneg (by omega) hb.1
        have b2 : ((m.length : Int) - 1) * mostS l ≤ 15 * 1000 := Int.mul_le_mul (by omega) hb.2 hb.1 (by omega)
        have hR2 := ref09_rounds.a (l := l) (frm := m) (most := maxL m + ((m.length : Int) - 1) * mostS l) r3 (by omega) r4 (by omega) (hsm.mono (by omega))
        rw [runV] at hR2
        simp +contextual (disch := omega) [Nat.add_assoc, Int.add_assoc, if_pos, if_neg, -Int.not_lt, -Int.not_le, -Nat.not_lt, -Nat.not_le, -List.length_flatMap, ref09_From.b1, g1, g2, g3, g4, ansK (ref09_Limit.a hR), ansK hR2, limC]
theorem solveV_tu (vars : Int) (l : List C) : ∃ a b c d, solveV vars l = .tu [sV cI a, .b b, .i .i64 c, .i .i64 d] ∧ a.length ≤ 16 := by
  unfold solveV
  split
  · rename_i h
    obtain ⟨r1, r2, r3, r4⟩ := right_ok h
    refine ⟨_, _, _, _, rfl, ?_⟩
    have r4' : ∀ c ∈ l, okC vars.toNat c = true := fun c hc => okC_mono (by omega) (r4 c hc)
    rcases solve_spec (n := vars.toNat) (l := l) (by omega) r4' with ⟨_, h2, _⟩ | ⟨_, h2, _⟩
    · rw [h2.len, noughts_len]; omega
    · rw [h2]; simp
  · exact ⟨_, _, _, _, rfl, by simp⟩
theorem fromV_tu (l : List C) (m : List Int) : ∃ a b c, fromV l m = .tu [sV cI a, .b b, .i .i64 c] ∧ a.length ≤ 16 := by
  unfold fromV
  split
  · exact ⟨_, _, _, rfl, by simp⟩
  · split
    · exact ⟨_, _, _, rfl, by simp⟩
    · rename_i h1 h2
      have hR : rightC m.length l = true := by simpa using fun e => h1 (.inl e)
      have hN : Nats m := nats_iff.1 (by simpa using fun e => h1 (.inr e))
      obtain ⟨r1, r2, r3, r4⟩ := right_ok hR
      refine ⟨_, _, _, rfl, ?_⟩
      rcases lm_spec (l := l) (frm := m) (F := maxL m) (by omega) r4 (fun i _ => max_small hN i) with ⟨_, h2, _⟩ | ⟨_, h2, _⟩
      · rw [h2.len]; omega
      · rw [h2]; simp
set_option maxRecDepth 20000 in
theorem law09_same.a (vars : Int) (l : List C) (model : List Int) (hl : l.length ≤ 9223372036854775807) (hf : ∀ c ∈ l, c.frm.length ≤ 9223372036854775807) (hm : model.length ≤ 9223372036854775807) : Ans ctx law09_same.n [.i .i64 vars, sV cC l, sV cI model] (.b true) := by
  refine ans law09_same.f ?_
  obtain ⟨a1, b1, c1, d1, e1, n1⟩ := solveV_tu vars l
  obtain ⟨a2, b2, c2, e2, n2⟩ := fromV_tu l model
  have h1 := solve_Solve.a vars l hl hf
  have h2 := ref09_Solve.a vars l hl hf
  have h3 := solve_From.a l model hl hf hm
  have h4 := ref09_From.a l model hl hf hm
  rw [e1] at h1 h2
  rw [e2] at h3 h4
  simp +contextual (disch := omega) [Nat.add_assoc, Int.add_assoc, if_pos, if_neg, -Int.not_lt, -Int.not_le, -Nat.not_lt, -Nat.not_le, -List.length_flatMap, law09_same.c, ansK h1, ansK h2, ansK h3, ansK h4, ansK (ref08_Ints.a a1 a1 (by omega)), ansK (ref08_Ints.a a2 a2 (by omega))]
theorem law09_SolveMade.a (n : Nat) (hn : n < 256) (l v : List Nat) (hb : Byt l) (hl : l.length ≤ 9223372036854775807) (hbv : Byt v) (hlv : v.length ≤ 9223372036854775807) : Ans ctx law09_SolveMade.n [.i .u8 n, sV cU l, sV cU v] (.b true) := by
  refine ans law09_SolveMade.f ?_
  have h1 : (madeC n l).length ≤ 30 := madeB_len _ _ _
  have hs : ∀ c ∈ madeC n l, c.frm.length ≤ 9223372036854775807 := fun c hc => Nat.le_trans (okC_six ((right_ok (madeC_right n l)).2.2.2 c hc)) (by omega)
  have h2 := modelB_len n v
  have h3 : 1 ≤ varsB n ∧ varsB n ≤ 8 := by unfold varsB; omega
  simp +contextual (disch := omega) [Nat.add_assoc, Int.add_assoc, if_pos, if_neg, -Int.not_lt, -Int.not_le, -Nat.not_lt, -Nat.not_le, -List.length_flatMap, law09_SolveMade.c, ansK (law08_Vars.a n hn), ansK (law08_Made.a n hn l hb hl), ansK (law08_Model.a n hn v hbv hlv), ansK (law09_same.a _ (madeC n l) (modelB n v) (by omega) hs (by omega))]
end Pi
