/- Contracts: arenas (layer 4): Right. -/
import Derived.Test.YtdeichdplcafcaaC04b
set_option linter.unusedSimpArgs false
set_option linter.unusedVariables false
namespace Pi
def fitAll : List N → Nat → Bool
  | [], _ => true
  | x :: r, i => fitN x i && fitAll r (i + 1)
theorem fitAll_at {l : List N} {i : Nat} (h : i < l.length) : fitAll (l.drop i) i = (fitN l[i] i && fitAll (l.drop (i + 1)) (i + 1)) := by
  rw [List.drop_eq_getElem_cons h, fitAll]
def rightN (l : List N) : Bool := fitAll l 0 && decide (l.length ≤ 1000) && decide l.Nodup
set_option maxRecDepth 5000 in
theorem arena_Right.a (l : List N) (hl : l.length ≤ 1000000) : Ans ctx arena_Right.n [.ag [sV cN l]] (.b (rightN l)) := by
  obtain ⟨R, hR⟩ : ∃ R, R = rightN l := ⟨_, rfl⟩
  rw [← hR]
  unfold rightN at hR
  refine ans arena_Right.f ?_
  simp +contextual (disch := omega) [Nat.add_assoc, Int.add_assoc, if_pos, if_neg, -Int.not_lt, -Int.not_le, -Nat.not_lt, -Nat.not_le, -List.length_flatMap, arena_Right.c]
  refine for_w (fun i e m x => e 1 = .p 0 0 ∧ e 6 = sV cN l ∧ e 7 = .i .i64 l.length ∧ e 8 = .i .i64 i ∧ 1 ≤ x ∧ m 0 = some (.cells [sV cN l] false) ∧ fitAll l 0 = fitAll (l.drop i) i) l.length ?_ ?_ ?_
  · simp +contextual (disch := omega) [Nat.add_assoc, Int.add_assoc, if_pos, if_neg, -Int.not_lt, -Int.not_le, -Nat.not_lt, -Nat.not_le, -List.length_flatMap]
  · rintro i e m x hi ⟨g1, g6, g7, g8, gx, g0, gf⟩
    have hF := arena_fits.a l[i] i
    rw [fitAll_at hi] at gf
    cases hf : fitN l[i] i with
    | true =>
      rw [hf] at hF gf
      simp +contextual (disch := omega) [Nat.add_assoc, Int.add_assoc, if_pos, if_neg, -Int.not_lt, -Int.not_le, -Nat.not_lt, -Nat.not_le, -List.length_flatMap, arena_Right.b1, g1, g6, g7, g8, g0, hi, ansK hF]
      exact gf
    | false =>
      rw [hf] at hF gf
      have hR0 : R = false := by rw [hR, gf]; rfl
      simp +contextual (disch := omega) [Nat.add_assoc, Int.add_assoc, if_pos, if_neg, -Int.not_lt, -Int.not_le, -Nat.not_lt, -Nat.not_le, -List.length_flatMap, arena_Right.b1, g1, g6, g7, g8, g0, hi, ansK hF, hR0]
  · rintro e m x ⟨g1, g6, g7, g8, gx, g0, gf⟩
    have e0 : fitAll l 0 = true := by rw [gf, List.drop_of_length_le (Nat.le_refl _)]; rfl
    rw [e0] at hR
    by_cases h1 : l.length ≤ 1000
    · simp +contextual (disch := omega) [Nat.add_assoc, Int.add_assoc, if_pos, if_neg, -Int.not_lt, -Int.not_le, -Nat.not_lt, -Nat.not_le, -List.length_flatMap, arena_Right.b1, g1, g6, g7, g8, g0, h1]
      rw [CallQ_op (by rfl)]
      refine openq_w rfl rfl rfl rfl (a := [.ag [sV cN l]]) (by simp [freezeL]) ?_
      refine arena_index.w l hl ?_
      intro a m' x' h1' h2' h3' h4' h5'
      have ho := h5' Own.nil
      refine ⟨by simp [V.over]; omega, fun j q _ => ho j q, fun ws ids w1 w2 w3 => ?_⟩
      obtain ⟨M1, hM1⟩ : ∃ M1, M1 = m.app ws := ⟨_, rfl⟩
      have k0 : M1 0 = some (.cells [sV cN l] false) := by rw [hM1, w3, if_neg (by omega), g0]
      have ka : M1 a = some (.map (keysN (idxT l l.length).1) (valsI (idxT l l.length).2) false) := by rw [hM1, w3, if_pos ⟨h1', h2'⟩, h3']
      have hln : (keysN (idxT l l.length).1).length = (idxT l l.length).1.length := by simp [keysN]
      simp +contextual (disch := omega) [Nat.add_assoc, Int.add_assoc, if_pos, if_neg, -Int.not_lt, -Int.not_le, -Nat.not_lt, -Nat.not_le, -List.length_flatMap, hM1.symm, k0, ka, w2, h1, hln, g1]
      rw [IfK_pos (fun q hq => by have := w1 q hq; omega), hR]
      have hi := idx_len_iff l
      by_cases hn : l.Nodup
      · rw [decide_eq_true hn]
        have := hi.2 hn
        simp [this, h1]
      · rw [decide_eq_false hn]
        have : ¬ (idxT l l.length).1.length = l.length := fun h => hn (hi.1 h)
        simp
        omega
    · have hR0 : R = false := by rw [hR]; simp [h1]
      simp +contextual (disch := omega) [Nat.add_assoc, Int.add_assoc, if_pos, if_neg, -Int.not_lt, -Int.not_le, -Nat.not_lt, -Nat.not_le, -List.length_flatMap, arena_Right.b1, g1, g6, g7, g8, g0, h1, hR0]
end Pi

