/- Laws of layer 4: arenas that are deep, or great. -/
import Derived.Test.YtdeichdplcafcaaC04m
set_option linter.unusedSimpArgs false
set_option linter.unusedVariables false
namespace Pi
def deepN (how i : Nat) : N := if how % 3 = 1 then ⟨3, 0, i, i⟩ else ⟨2, 0, i, 0⟩
def deepT (how : Nat) : Nat → List N
  | 0 => [⟨1, 0, 0, 0⟩]
  | i + 1 => deepT how i ++ [deepN how i]
theorem deepT_len (how : Nat) : ∀ i, (deepT how i).length = i + 1
  | 0 => rfl
  | i + 1 => by rw [deepT, List.length_append, deepT_len how i]; rfl
set_option maxRecDepth 20000 in
theorem law04_ArenaDeep.a (n how : Nat) (hn : n < 256) (hh : how < 256) (k : List Nat) (hk : Byt k) : Ans ctx law04_ArenaDeep.n [.i .u8 n, .i .u8 how, sV cU k] (.b true) := by
  have hM : Ans ctx law02_Made.n [sV cU k, .i .i64 5, .i .i64 10] (.ag (cL (madeS k 5 10))) := law02_Made.a k hk 5 10 (by omega) (by omega)
  have ok : (madeS k 5 10).Ok := madeS_ok _ _ _ (by omega) (by omega)
  generalize madeS k 5 10 = x at *
  have t17 : ((n : Int).tmod 17) = ((n % 17 : Nat) : Int) := by rw [Int.tmod_eq_emod_of_nonneg (by omega)]; omega
  have t9 : ((n : Int).tmod 9) = ((n % 9 : Nat) : Int) := by rw [Int.tmod_eq_emod_of_nonneg (by omega)]; omega
  have t3 : ((how : Int).tmod 3) = ((how % 3 : Nat) : Int) := by rw [Int.tmod_eq_emod_of_nonneg (by omega)]; omega
  obtain ⟨q, hq⟩ : ∃ q, q = how % 3 := ⟨_, rfl⟩
  obtain ⟨u, hu⟩ : ∃ u, u = n % 17 := ⟨_, rfl⟩
  obtain ⟨v, hv⟩ : ∃ v, v = n % 9 := ⟨_, rfl⟩
  have hu1 : u < 17 := by omega
  have hv1 : v < 9 := by omega
  rw [← hq] at t3
  rw [← hu] at t17
  rw [← hv] at t9
  obtain ⟨M, hM0⟩ : ∃ M : Nat, M = if q = 2 then 994 + v else u := ⟨_, rfl⟩
  have hM1 : M ≤ 1002 := by rw [hM0]; split <;> omega
  have h00 : (L.mk 0 0 []).Ok := .mk (by simp) (by omega) (by omega) (by simp)
  have tdv : ((M : Int).tdiv 2) = ((M / 2 : Nat) : Int) := by rw [Int.tdiv_eq_ediv_of_nonneg (by omega)]; omega
  have hT1 := law04_told.a (deepT how M) x ok M (by rw [deepT_len]; omega)
  have hT2 := law04_told.a (deepT how M) (.mk 0 0 []) h00 ((M / 2 : Nat) : Int) (by rw [deepT_len]; omega)
  have hm2 : M / 2 ≤ 1002 := by omega
  generalize M / 2 = M2 at *
  refine ans law04_ArenaDeep.f ?_
  by_cases h2 : q = 2
  · rw [if_pos h2] at hM0
    simp +contextual (disch := omega) [Nat.add_assoc, Int.add_assoc, if_pos, if_neg, -Int.not_lt, -Int.not_le, -Nat.not_lt, -Nat.not_le, -List.length_flatMap, law04_ArenaDeep.c, h2, t3, t17, t9]
    have hMi : (994 : Int) + v = M := by omega
    rw [hMi]
    refine for_w (fun i e m x1 => e 1 = .i .u8 how ∧ e 2 = sV cU k ∧ e 7 = .p 4 0 ∧ e 8 = .i .i64 M ∧ e 9 = .i .i64 i ∧ 5 ≤ x1 ∧ ∃ B, m 4 = some (.cells [B] false) ∧ Eg m B cN 4 (deepT how i) 0 x1 ∧ ∀ j, j ∈ refOf B → j ≠ 4) M ?_ ?_ ?_
    · simp +contextual (disch := omega) [Nat.add_assoc, Int.add_assoc, if_pos, if_neg, -Int.not_lt, -Int.not_le, -Nat.not_lt, -Nat.not_le, -List.length_flatMap]
      exact .inr ⟨2, rfl, rfl, by omega, by omega⟩
    · rintro i e m x1 hi ⟨g1, g2, g7, g8, g9, gx, B, g4, gB, gr⟩
      have hst := gB.stor
      have hln := deepT_len how i
      rw [deepT]
      unfold deepN
      rw [← hq]
      by_cases h1 : q = 1
      · exact absurd h1 (by omega)
      · rw [if_neg h1]
        simp +contextual (disch := omega) [Nat.add_assoc, Int.add_assoc, if_pos, if_neg, -Int.not_lt, -Int.not_le, -Nat.not_lt, -Nat.not_le, -List.length_flatMap, law04_ArenaDeep.b1, g1, g2, g7, g8, g9, g4, hi, t3, h1, hst.1, hst.2.1, -apV_ns]
        refine gB.apy [⟨2, 0, i, 0⟩] (fun j h => by have := (gB.ref h).2; simp +contextual (disch := omega) [Nat.add_assoc, Int.add_assoc, if_pos, if_neg, -Int.not_lt, -Int.not_le, -Nat.not_lt, -Nat.not_le, -List.length_flatMap]) (by omega) rfl rfl (by simp) (by simp [hln]; omega) ?_
        intro ws m2 v1 v2 v3 v4
        have r4 : m2 4 = some (.cells [B] false) := by rw [v3 4 (fun h => gr 4 h rfl) (by omega)]; simp +contextual (disch := omega) [Nat.add_assoc, Int.add_assoc, if_pos, if_neg, -Int.not_lt, -Int.not_le, -Nat.not_lt, -Nat.not_le, -List.length_flatMap, g4]
        simp +contextual (disch := omega) [Nat.add_assoc, Int.add_assoc, if_pos, if_neg, -Int.not_lt, -Int.not_le, -Nat.not_lt, -Nat.not_le, -List.length_flatMap, v1, g1, g2, g7, g8, g9, r4]
        refine .inr ⟨x1 + 14, by simp, ?_, by omega, by omega⟩
        rw [Sto.sne _ _ _ _ (by omega), v2]
    · rintro e m x1 ⟨g1, g2, g7, g8, g9, gx, B, g4, gB, gr⟩
      have hst := gB.stor
      have hz := gB.bf.fz24
      simp +contextual (disch := omega) [Nat.add_assoc, Int.add_assoc, if_pos, if_neg, -Int.not_lt, -Int.not_le, -Nat.not_lt, -Nat.not_le, -List.length_flatMap, law04_ArenaDeep.b1, g1, g2, g7, g8, g9, g4, hst.1, hst.2.1, ansK law04_awake.a, ansK hM, hz, ansK hT1, ansK hT2, t3, tdv, h2]
  · rw [if_neg h2] at hM0
    simp +contextual (disch := omega) [Nat.add_assoc, Int.add_assoc, if_pos, if_neg, -Int.not_lt, -Int.not_le, -Nat.not_lt, -Nat.not_le, -List.length_flatMap, law04_ArenaDeep.c, h2, t3, t17, t9]
    rw [← hM0]
    refine for_w (fun i e m x1 => e 1 = .i .u8 how ∧ e 2 = sV cU k ∧ e 7 = .p 4 0 ∧ e 8 = .i .i64 M ∧ e 9 = .i .i64 i ∧ 5 ≤ x1 ∧ ∃ B, m 4 = some (.cells [B] false) ∧ Eg m B cN 4 (deepT how i) 0 x1 ∧ ∀ j, j ∈ refOf B → j ≠ 4) M ?_ ?_ ?_
    · simp +contextual (disch := omega) [Nat.add_assoc, Int.add_assoc, if_pos, if_neg, -Int.not_lt, -Int.not_le, -Nat.not_lt, -Nat.not_le, -List.length_flatMap]
      exact .inr ⟨2, rfl, rfl, by omega, by omega⟩
    · rintro i e m x1 hi ⟨g1, g2, g7, g8, g9, gx, B, g4, gB, gr⟩
      have hst := gB.stor
      have hln := deepT_len how i
      rw [deepT]
      unfold deepN
      rw [← hq]
      by_cases h1 : q = 1
      · rw [if_pos h1]
        simp +contextual (disch := omega) [Nat.add_assoc, Int.add_assoc, if_pos, if_neg, -Int.not_lt, -Int.not_le, -Nat.not_lt, -Nat.not_le, -List.length_flatMap, law04_ArenaDeep.b1, g1, g2, g7, g8, g9, g4, hi, t3, h1, hst.1, hst.2.1, -apV_ns]
        refine gB.apy [⟨3, 0, i, i⟩] (fun j h => by have := (gB.ref h).2; simp +contextual (disch := omega) [Nat.add_assoc, Int.add_assoc, if_pos, if_neg, -Int.not_lt, -Int.not_le, -Nat.not_lt, -Nat.not_le, -List.length_flatMap]) (by omega) rfl rfl (by simp) (by simp [hln]; omega) ?_
        intro ws m2 v1 v2 v3 v4
        have r4 : m2 4 = some (.cells [B] false) := by rw [v3 4 (fun h => gr 4 h rfl) (by omega)]; simp +contextual (disch := omega) [Nat.add_assoc, Int.add_assoc, if_pos, if_neg, -Int.not_lt, -Int.not_le, -Nat.not_lt, -Nat.not_le, -List.length_flatMap, g4]
        simp +contextual (disch := omega) [Nat.add_assoc, Int.add_assoc, if_pos, if_neg, -Int.not_lt, -Int.not_le, -Nat.not_lt, -Nat.not_le, -List.length_flatMap, v1, g1, g2, g7, g8, g9, r4]
        refine .inr ⟨x1 + 18, by simp, ?_, by omega, by omega⟩
        rw [Sto.sne _ _ _ _ (by omega), v2]
      · rw [if_neg h1]
        simp +contextual (disch := omega) [Nat.add_assoc, Int.add_assoc, if_pos, if_neg, -Int.not_lt, -Int.not_le, -Nat.not_lt, -Nat.not_le, -List.length_flatMap, law04_ArenaDeep.b1, g1, g2, g7, g8, g9, g4, hi, t3, h1, hst.1, hst.2.1, -apV_ns]
        refine gB.apy [⟨2, 0, i, 0⟩] (fun j h => by have := (gB.ref h).2; simp +contextual (disch := omega) [Nat.add_assoc, Int.add_assoc, if_pos, if_neg, -Int.not_lt, -Int.not_le, -Nat.not_lt, -Nat.not_le, -List.length_flatMap]) (by omega) rfl rfl (by simp) (by simp [hln]; omega) ?_
        intro ws m2 v1 v2 v3 v4
        have r4 : m2 4 = some (.cells [B] false) := by rw [v3 4 (fun h => gr 4 h rfl) (by omega)]; simp +contextual (disch := omega) [Nat.add_assoc, Int.add_assoc, if_pos, if_neg, -Int.not_lt, -Int.not_le, -Nat.not_lt, -Nat.not_le, -List.length_flatMap, g4]
        simp +contextual (disch := omega) [Nat.add_assoc, Int.add_assoc, if_pos, if_neg, -Int.not_lt, -Int.not_le, -Nat.not_lt, -Nat.not_le, -List.length_flatMap, v1, g1, g2, g7, g8, g9, r4]
        refine .inr ⟨x1 + 14, by simp, ?_, by omega, by omega⟩
        rw [Sto.sne _ _ _ _ (by omega), v2]
    · rintro e m x1 ⟨g1, g2, g7, g8, g9, gx, B, g4, gB, gr⟩
      have hst := gB.stor
      have hz := gB.bf.fz24
      simp +contextual (disch := omega) [Nat.add_assoc, Int.add_assoc, if_pos, if_neg, -Int.not_lt, -Int.not_le, -Nat.not_lt, -Nat.not_le, -List.length_flatMap, law04_ArenaDeep.b1, g1, g2, g7, g8, g9, g4, hst.1, hst.2.1, ansK law04_awake.a, ansK hM, hz, ansK hT1, ansK hT2, t3, tdv, h2]
end Pi
