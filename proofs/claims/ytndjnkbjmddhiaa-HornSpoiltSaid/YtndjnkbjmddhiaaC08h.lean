/- Laws of layer 8: what any program answers; told; any clauses; by numbers. -/
import Derived.Test.YtndjnkbjmddhiaaC08g
set_option linter.unusedSimpArgs false
set_option linter.unusedVariables false
namespace Pi
set_option maxRecDepth 100000 in
theorem law08_awake.a : Ans ctx law08_awake.n [] (.b true) := ans_told (n := 600) (by kernel_rfl)
theorem brokenS_tu (l : List C) (model : List Int) : ∃ a b, brokenS l model = .tu [sV cI a, .i .i64 b] ∧ a.length ≤ 60 := by
  unfold brokenS
  split
  · exact ⟨_, _, rfl, by simp⟩
  · rename_i h
    have h1 : rightC model.length l = true := by simpa using fun e => h (.inl e)
    obtain ⟨r1, r2, r3, r4⟩ := right_ok h1
    exact ⟨_, _, rfl, Nat.le_trans (placesS_len _ _) r3⟩
theorem mostV_tu (vars : Int) (l : List C) : ∃ a b, mostV vars l = .tu [.i .i64 a, .i .i64 b] := by
  unfold mostV
  split <;> exact ⟨_, _, rfl⟩
theorem namesV_tu (vars : Int) (l : List C) : ∃ a b, namesV vars l = .tu [sV cI a, .i .i64 b] ∧ a.length ≤ 16 := by
  unfold namesV
  split
  · rename_i h
    obtain ⟨r1, r2, r3, r4⟩ := right_ok h
    exact ⟨_, _, rfl, Nat.le_trans (places_rl _ _) (by omega)⟩
  · exact ⟨_, _, rfl, by simp⟩
set_option maxRecDepth 20000 in
theorem law08_told.a (vars : Int) (l : List C) (model : List Int) (hl : l.length ≤ 9223372036854775807) (hf : ∀ c ∈ l, c.frm.length ≤ 9223372036854775807) (hm : model.length ≤ 9223372036854775807) : Ans ctx law08_told.n [.i .i64 vars, sV cC l, sV cI model] (.b true) := by
  refine ans law08_told.f ?_
  obtain ⟨a1, b1, e1, n1⟩ := brokenS_tu l model
  obtain ⟨a2, b2, e2⟩ := mostV_tu vars l
  obtain ⟨a3, b3, e3, n3⟩ := namesV_tu vars l
  have h1 := horn_Broken.a l model hl hf hm
  have h2 := ref08_Broken.a l model hl hf hm
  have h3 := horn_Most.a vars l hl hf
  have h4 := ref08_Most.a vars l hl hf
  have h5 := horn_Names.a vars l hl hf
  have h6 := ref08_Names.a vars l hl hf
  rw [e1] at h1 h2
  rw [e2] at h3 h4
  rw [e3] at h5 h6
  simp +contextual (disch := omega) [Nat.add_assoc, Int.add_assoc, if_pos, if_neg, -Int.not_lt, -Int.not_le, -Nat.not_lt, -Nat.not_le, -List.length_flatMap, law08_told.c, ansK h1, ansK h2, ansK h3, ansK h4, ansK h5, ansK h6, ansK (horn_Right.a vars l hl hf), ansK (ref08_Right.a vars l hl hf), ansK (ref08_Ints.a a1 a1 (by omega)), ansK (ref08_Ints.a a3 a3 (by omega))]
theorem law08_HornAny.a (vars : Int) (l : List C) (model : List Int) (hl : l.length ≤ 9223372036854775807) (ok : ∀ c ∈ l, c.Ok) (hm : model.length ≤ 9223372036854775807) : Ans ctx law08_HornAny.n [.i .i64 vars, sV cC l, sV cI model] (.b true) := by
  refine ans law08_HornAny.f ?_
  have hf : ∀ c ∈ l, c.frm.length ≤ 9223372036854775807 := fun c hc => Nat.le_trans (ok c hc).1 (by decide)
  have ht := law08_told.a vars l model hl hf hm
  simp +contextual (disch := omega) [Nat.add_assoc, Int.add_assoc, if_pos, if_neg, -Int.not_lt, -Int.not_le, -Nat.not_lt, -Nat.not_le, -List.length_flatMap, law08_HornAny.c]
  refine for_w (fun i e m x => e 0 = .i .i64 vars ∧ e 1 = sV cC l ∧ e 2 = sV cI model ∧ e 8 = .i .i64 i ∧ ∃ n, e 7 = .i .i64 n) l.length ?_ ?_ ?_
  · simp +contextual (disch := omega) [Nat.add_assoc, Int.add_assoc, if_pos, if_neg, -Int.not_lt, -Int.not_le, -Nat.not_lt, -Nat.not_le, -List.length_flatMap]
  · rintro i e m x hi ⟨g1, g2, g3, g4, n, g5⟩
    by_cases hn : n ≤ 300
    · simp +contextual (disch := omega) [Nat.add_assoc, Int.add_assoc, if_pos, if_neg, -Int.not_lt, -Int.not_le, -Nat.not_lt, -Nat.not_le, -List.length_flatMap, law08_HornAny.b1, g1, g2, g3, g4, g5, hi]
    · simp +contextual (disch := omega) [Nat.add_assoc, Int.add_assoc, if_pos, if_neg, -Int.not_lt, -Int.not_le, -Nat.not_lt, -Nat.not_le, -List.length_flatMap, law08_HornAny.b1, g1, g2, g3, g4, g5, hi, ansK law08_awake.a]
  · rintro e m x ⟨g1, g2, g3, g4, n, g5⟩
    by_cases hn : n ≤ 300
    · by_cases hm2 : 100 < model.length
      · simp +contextual (disch := omega) [Nat.add_assoc, Int.add_assoc, if_pos, if_neg, -Int.not_lt, -Int.not_le, -Nat.not_lt, -Nat.not_le, -List.length_flatMap, law08_HornAny.b1, g1, g2, g3, g4, g5, ansK law08_awake.a]
      · simp +contextual (disch := omega) [Nat.add_assoc, Int.add_assoc, if_pos, if_neg, -Int.not_lt, -Int.not_le, -Nat.not_lt, -Nat.not_le, -List.length_flatMap, law08_HornAny.b1, g1, g2, g3, g4, g5, ansK law08_awake.a, ansK ht]
    · simp +contextual (disch := omega) [Nat.add_assoc, Int.add_assoc, if_pos, if_neg, -Int.not_lt, -Int.not_le, -Nat.not_lt, -Nat.not_le, -List.length_flatMap, law08_HornAny.b1, g1, g2, g3, g4, g5, ansK law08_awake.a]
end Pi
