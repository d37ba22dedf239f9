/- Part of the proof: contracts of the program's functions. -/
import Derived.Test.YtdeichdplcafcaaC02g
set_option linter.unusedSimpArgs false
set_option linter.unusedVariables false
namespace Pi
/-- A level that is made, by numbers. -/
def madeS (l : List Nat) (p q : Nat) : L := (mkS l p q 5 0).1
theorem law02_Made.a (l : List Nat) (hb : Byt l) (p q : Nat) (hp : p ≤ 256) (hq : q ≤ 256) : Ans ctx law02_Made.n [sV cU l, .i .i64 p, .i .i64 q] (.ag (cL (madeS l p q))) := by
  refine ans law02_Made.f ?_
  simp +contextual (disch := omega) [Nat.add_assoc, Int.add_assoc, if_pos, if_neg, -Int.not_lt, -Int.not_le, -Nat.not_lt, -Nat.not_le, -List.length_flatMap, law02_Made.c]
  refine made_w l hb p q hp hq 3 4 (by omega) 0 (by omega) (by omega) (by simp +contextual (disch := omega) [Nat.add_assoc, Int.add_assoc, if_pos, if_neg, -Int.not_lt, -Int.not_le, -Nat.not_lt, -Nat.not_le, -List.length_flatMap]) ?_
  intro cs m' x' h1 h2 h3 h4 h5
  have h0 := h3 0 (by omega) (by omega)
  simp (disch := omega) at h0
  have ht : cs.take 3 = cs := List.take_of_length_le (by omega)
  have hd : cs.drop 3 = [] := List.drop_of_length_le (by omega)
  obtain ⟨ids, q⟩ := (h5.up (m' := m'.set 0 (some (.cells cs false))) (Nat.le_refl _) (Nat.le_refl _) (by simp +contextual (disch := omega) [Nat.add_assoc, Int.add_assoc, if_pos, if_neg, -Int.not_lt, -Int.not_le, -Nat.not_lt, -Nat.not_le, -List.length_flatMap])).at 24 (by omega)
  simp +contextual (disch := omega) [Nat.add_assoc, Int.add_assoc, if_pos, if_neg, -Int.not_lt, -Int.not_le, -Nat.not_lt, -Nat.not_le, -List.length_flatMap, h0, h1, ht, hd, q, madeS]

theorem mkS_ok (l : List Nat) (p q : Nat) (hp : p ≤ 256) (hq : q ≤ 256) (d : Nat) : ∀ i, (mkS l p q d i).1.Ok := by
  have lf : ∀ (k : Int) (n : Nat), 0 ≤ k ∧ k ≤ 10 → n ≤ 256 → (L.mk k n []).Ok := fun k n h1 h2 => .mk (by simp) (by omega) (by omega) (by simp)
  have pk : ∀ i n, n ≤ 256 → pickS l i n ≤ 256 ∨ n = 0 := fun i n hn => by
    rcases Nat.eq_zero_or_pos n with h | h
    · exact .inr h
    · have := pickS_lt l i n h; omega
  induction d with
  | zero =>
    intro i
    simp only [mkS]
    split
    · rename_i h; rcases pk (i + 1) p hp with h1 | h1
      · exact lf _ _ (by omega) h1
      · omega
    · split
      · rename_i h; rcases pk (i + 1) q hq with h1 | h1
        · exact lf _ _ (by omega) h1
        · omega
      · exact lf 1 0 (by omega) (by omega)
  | succ d ih =>
    intro i
    rw [mkS_eq]
    simp only
    generalize (if d = 0 then pickS l i 10 % 4 else pickS l i 10) = k
    split
    · rename_i h; rcases pk (i + 1) p hp with h1 | h1
      · exact lf _ _ (by omega) h1
      · omega
    · split
      · rename_i h; rcases pk (i + 1) q hq with h1 | h1
        · exact lf _ _ (by omega) h1
        · omega
      · split
        · exact lf 1 0 (by omega) (by omega)
        · split
          · exact .mk (by simp) (by simp) (by simp) (by simpa using ih _)
          · split
            · exact .mk (by simp) (by simp) (by simp) (by simpa using ⟨ih _, ih _⟩)
            · exact .mk (by simp) (by simp) (by simp) (by simpa using ⟨ih _, ih _⟩)
theorem madeS_ok (l : List Nat) (p q : Nat) (hp : p ≤ 256) (hq : q ≤ 256) : (madeS l p q).Ok := mkS_ok l p q hp hq 5 0

end Pi

