/- Part of the proof: contracts of the program's functions. -/
import Derived.Test.YtdeichdplcafcaaC02a
import Derived.Test.YtdeichdplcafcaaCIdx
set_option linter.unusedSimpArgs false
set_option linter.unusedVariables false
namespace Pi
theorem slices_IndexFunc_Level.a (l : List L) (g : Nat) (caps : List V) (p : L → Bool) (hg : ctx.opn g = false) (hpr : ctx.prim g = none) (hc : ∀ D, frzL D caps = some (caps, [])) (h : ∀ k ∈ l, Ans ctx g ((.ag (cL k)) :: caps) (.b (p k))) (hl : l.length ≤ 9223372036854775807) :
    Ans ctx slices_IndexFunc_Level.n [sV cL l, .fn (.func g) [] caps] (.i .i64 (idxS p l)) := by
  refine ans slices_IndexFunc_Level.f ?_
  simp +contextual (disch := omega) [Nat.add_assoc, Int.add_assoc, if_pos, if_neg, -Int.not_lt, -Int.not_le, -Nat.not_lt, -Nat.not_le, -List.length_flatMap, slices_IndexFunc_Level.c]
  refine for_w (fun i e m x => e 0 = sV cL l ∧ e 1 = .fn (.func g) [] caps ∧ e 7 = .i .i64 l.length ∧ e 8 = .i .i64 i ∧ (l.take i).all (fun a => !p a) = true) l.length ?_ ?_ ?_
  · simp +contextual (disch := omega) [Nat.add_assoc, Int.add_assoc, if_pos, if_neg, -Int.not_lt, -Int.not_le, -Nat.not_lt, -Nat.not_le, -List.length_flatMap]
  · rintro i e m x hi ⟨g1, g2, g3, g4, g5⟩
    have hk := h l[i] (List.getElem_mem hi)
    obtain ⟨q1, q2⟩ := idx_take hi g5
    cases hp : p l[i] with
    | true =>
      rw [hp] at hk
      simp +contextual (disch := omega) [Nat.add_assoc, Int.add_assoc, if_pos, if_neg, -Int.not_lt, -Int.not_le, -Nat.not_lt, -Nat.not_le, -List.length_flatMap, slices_IndexFunc_Level.b1, g1, g2, g3, g4, hi, CallX_cl (C := ctx) (g := g) hpr hg, hc, ansK hk, q1 hp]
    | false =>
      rw [hp] at hk
      simp +contextual (disch := omega) [Nat.add_assoc, Int.add_assoc, if_pos, if_neg, -Int.not_lt, -Int.not_le, -Nat.not_lt, -Nat.not_le, -List.length_flatMap, slices_IndexFunc_Level.b1, g1, g2, g3, g4, hi, CallX_cl (C := ctx) (g := g) hpr hg, hc, ansK hk, q2 hp]
  · rintro e m x ⟨g1, g2, g3, g4, g5⟩
    rw [List.take_length] at g5
    simp +contextual (disch := omega) [Nat.add_assoc, Int.add_assoc, if_pos, if_neg, -Int.not_lt, -Int.not_le, -Nat.not_lt, -Nat.not_le, -List.length_flatMap, slices_IndexFunc_Level.b1, g1, g2, g3, g4, idx_all g5]
theorem slices_ContainsFunc_Level.a (l : List L) (g : Nat) (caps : List V) (p : L → Bool) (hg : ctx.opn g = false) (hpr : ctx.prim g = none) (hc : ∀ D, frzL D caps = some (caps, [])) (h : ∀ k ∈ l, Ans ctx g ((.ag (cL k)) :: caps) (.b (p k))) (hl : l.length ≤ 9223372036854775807) :
    Ans ctx slices_ContainsFunc_Level.n [sV cL l, .fn (.func g) [] caps] (.b (l.any p)) := by
  refine ans slices_ContainsFunc_Level.f ?_
  simp +contextual (disch := omega) [Nat.add_assoc, Int.add_assoc, if_pos, if_neg, -Int.not_lt, -Int.not_le, -Nat.not_lt, -Nat.not_le, -List.length_flatMap, slices_ContainsFunc_Level.c, hc, ansK (slices_IndexFunc_Level.a l g caps p hg hpr hc h hl), idx_ge]
end Pi

