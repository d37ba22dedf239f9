/- Laws of layer 6: any flats. -/
import Derived.Test.YtjaoacpemboakaaC06f
import Derived.Test.YtjaoacpemboakaaC02h
set_option linter.unusedSimpArgs false
set_option linter.unusedVariables false
namespace Pi
set_option maxRecDepth 100000 in
theorem law06_awake.a : Ans ctx law06_awake.n [] (.b true) := ans_told (n := 1500) (by kernel_rfl)
theorem valueV_tu (f : F) (ps : List Int) : ∃ a b, valueV f ps = .tu [.i .i64 a, .i .i64 b] := by
  unfold valueV
  split <;> exact ⟨_, _, rfl⟩
set_option maxRecDepth 20000 in
theorem law06_told.a (f g : F) (v : List Int) (hf : f.offs.length ≤ 1000) (hg : g.offs.length ≤ 1000) (hv : v.length ≤ 1000000) : Ans ctx law06_told.n [.ag (cF f), .ag (cF g), sV cI v] (.b true) := by
  refine ans law06_told.f ?_
  obtain ⟨a, b, e⟩ := valueV_tu f v
  have h1 := flat_Value.a f v (by omega) hv
  have h2 := ref06_Value.a f v (by omega) hv
  rw [e] at h1 h2
  simp +contextual (disch := omega) [Nat.add_assoc, Int.add_assoc, if_pos, if_neg, -Int.not_lt, -Int.not_le, -Nat.not_lt, -Nat.not_le, -List.length_flatMap, law06_told.c, ansK h1, ansK h2, ansK (flat_Right.a f (by omega)), ansK (ref06_Right.a f (by omega)), ansK (flat_Leq.a f g (by omega) (by omega)), ansK (ref06_Leq.a f g (by omega) (by omega))]
theorem flattenV_tu (l : L) (zero : List Bool) : ∃ f n, flattenV l zero = .tu [.ag (cF f), .i .i64 n] ∧ f.offs.length ≤ 5 := by
  unfold flattenV
  split
  · rename_i h
    obtain ⟨hp, hr⟩ := RightS_ok (q := 0) h
    have hbd := ofS_bd l zero 12 hr
    refine ⟨_, _, rfl, ?_⟩
    rw [flatten_low l zero hbd]
    simp only
    rw [hbd.1]; exact hp
  · exact ⟨_, _, rfl, by simp⟩
set_option maxRecDepth 20000 in
theorem law06_FlatAny.a (f g : F) (v : List Int) (l : L) (ok : l.Ok) (zero : List Bool) (hf : f.offs.length ≤ 9223372036854775807) (hg : g.offs.length ≤ 9223372036854775807) (hv : v.length ≤ 9223372036854775807) (hz : zero.length ≤ 9223372036854775807) :
    Ans ctx law06_FlatAny.n [.ag (cF f), .ag (cF g), sV cI v, .ag (cL l), sV cB zero] (.b true) := by
  refine ans law06_FlatAny.f ?_
  by_cases h1 : 20 < f.offs.length
  · simp +contextual (disch := omega) [Nat.add_assoc, Int.add_assoc, if_pos, if_neg, -Int.not_lt, -Int.not_le, -Nat.not_lt, -Nat.not_le, -List.length_flatMap, law06_FlatAny.c, h1, ansK law06_awake.a]
  · by_cases h2 : 20 < g.offs.length
    · simp +contextual (disch := omega) [Nat.add_assoc, Int.add_assoc, if_pos, if_neg, -Int.not_lt, -Int.not_le, -Nat.not_lt, -Nat.not_le, -List.length_flatMap, law06_FlatAny.c, h1, h2, ansK law06_awake.a]
    · by_cases h3 : 20 < v.length
      · simp +contextual (disch := omega) [Nat.add_assoc, Int.add_assoc, if_pos, if_neg, -Int.not_lt, -Int.not_le, -Nat.not_lt, -Nat.not_le, -List.length_flatMap, law06_FlatAny.c, h1, h2, h3, ansK law06_awake.a]
      · by_cases h4 : 20 < zero.length
        · simp +contextual (disch := omega) [Nat.add_assoc, Int.add_assoc, if_pos, if_neg, -Int.not_lt, -Int.not_le, -Nat.not_lt, -Nat.not_le, -List.length_flatMap, law06_FlatAny.c, h1, h2, h3, h4, ansK law06_awake.a]
        · obtain ⟨x, n, e, hx⟩ := flattenV_tu l zero
          have q1 := flat_Flatten.a l ok zero (by omega)
          have q2 := ref06_Flatten.a l ok zero (by omega)
          rw [e] at q1 q2
          have hS := ref06_Same.a x x (by omega)
          rw [decide_eq_true rfl] at hS
          by_cases h5 : 300 < nodesS l 301
          · simp +contextual (disch := omega) [Nat.add_assoc, Int.add_assoc, if_pos, if_neg, -Int.not_lt, -Int.not_le, -Nat.not_lt, -Nat.not_le, -List.length_flatMap, law06_FlatAny.c, h1, h2, h3, h4, ansK (ref02_Nodes.a l ok 301 (by omega) (by omega)), h5, ansK law06_awake.a]
          · simp +contextual (disch := omega) [Nat.add_assoc, Int.add_assoc, if_pos, if_neg, -Int.not_lt, -Int.not_le, -Nat.not_lt, -Nat.not_le, -List.length_flatMap, law06_FlatAny.c, h1, h2, h3, h4, ansK (ref02_Nodes.a l ok 301 (by omega) (by omega)), h5, ansK law06_awake.a, ansK q1, ansK q2, ansK (law06_told.a f g v (by omega) (by omega) (by omega)), ansK (law06_told.a g f v (by omega) (by omega) (by omega)), ansK hS]
end Pi
