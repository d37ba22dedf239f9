/- Part of the proof: contracts of the program's functions. -/
import Derived.Test.YtdeichdplcafcaaC02h
set_option linter.unusedSimpArgs false
set_option linter.unusedVariables false
namespace Pi
/-! Made levels are right; what is more. -/
theorem mkS_right (l : List Nat) (p q : Nat) (d : Nat) : ∀ i, rightS (mkS l p q (d + 1) i).1 p q ((d : Int) + 1) = true := by
  induction d with
  | zero =>
    intro i
    rw [mkS_eq]
    simp only [if_true]
    have hk : pickS l i 10 % 4 < 4 := by omega
    generalize pickS l i 10 % 4 = k at hk
    split
    · rename_i h
      have := pickS_lt l (i + 1) p (by omega)
      rw [rightS_eq]
      simp [kidsS, namedS]
      omega
    · split
      · rename_i h
        have := pickS_lt l (i + 1) q (by omega)
        rw [rightS_eq]
        simp [kidsS, namedS]
        omega
      · rw [rightS_eq]
        simp [kidsS, namedS]
  | succ d ih =>
    intro i
    rw [mkS_eq]
    simp only
    generalize (if d + 1 = 0 then pickS l i 10 % 4 else pickS l i 10) = k
    have e1 : (((d + 1 : Nat) : Int) + 1 - 1) = (d : Int) + 1 := by omega
    split
    · rename_i h
      have := pickS_lt l (i + 1) p (by omega)
      rw [rightS_eq]
      simp [kidsS, namedS]
      omega
    · split
      · rename_i h
        have := pickS_lt l (i + 1) q (by omega)
        rw [rightS_eq]
        simp [kidsS, namedS]
        omega
      · split
        · rw [rightS_eq]
          simp [kidsS, namedS]
          omega
        · split
          · rw [rightS_eq, e1]
            simp [kidsS, namedS, ih]
            omega
          · split <;> (rw [rightS_eq, e1]; simp [kidsS, namedS, ih]; omega)
mutual
def szL (l : L) : Nat := match l with | .mk _ _ ks => 1 + szLs ks
def szLs (l : List L) : Nat := match l with | [] => 0 | a :: r => szL a + szLs r
end
theorem nodesL_le (ks : List L) (h : ∀ k ∈ ks, ∀ m, nodesS k m ≤ szL k) : ∀ (m n : Int), nodesL ks m n ≤ n + szLs ks := by
  induction ks with
  | nil => intro m n; simp [nodesL, szLs]
  | cons k r ih =>
    intro m n
    simp only [nodesL, szLs]
    have h1 := h k (by simp)
    have h2 := ih (fun k hk => h k (by simp [hk]))
    split
    · have := h1 (m - n)
      have := h2 m (n + nodesS k (m - n))
      omega
    · have := h2 m n
      omega
theorem nodesS_le (l : L) : ∀ m, nodesS l m ≤ szL l := by
  induction l using L.ind with
  | h l ih =>
    intro m
    cases l with
    | mk k n ks =>
      have := nodesL_le ks ih m 1
      simp only [nodesS, szL]
      omega
theorem mkS_sz (l : List Nat) (p q : Nat) (d : Nat) : ∀ i, szL (mkS l p q (d + 1) i).1 + 1 ≤ 2 ^ (d + 1) := by
  induction d with
  | zero =>
    intro i
    rw [mkS_eq]
    simp only [if_true]
    have hk : pickS l i 10 % 4 < 4 := by omega
    split
    · simp [szL, szLs]
    · split
      · simp [szL, szLs]
      · simp [szL, szLs]
  | succ d ih =>
    intro i
    have h0 : 2 ^ (d + 1 + 1) = 2 * 2 ^ (d + 1) := by rw [Nat.pow_succ, Nat.mul_comm]
    have h0' : 2 ^ (d + 2) = 2 * 2 ^ (d + 1) := h0
    have h1 : 2 ≤ 2 ^ (d + 1) := by
      calc 2 = 2 ^ 1 := rfl
        _ ≤ 2 ^ (d + 1) := Nat.pow_le_pow_right (by omega) (by omega)
    rw [mkS_eq]
    simp only
    generalize (if d + 1 = 0 then pickS l i 10 % 4 else pickS l i 10) = k
    have a1 := ih (i + 1)
    have a2 := ih (mkS l p q (d + 1) (i + 1)).2
    split
    · (try dsimp only); (try simp only [szL, szLs]); omega
    · split
      · (try dsimp only); (try simp only [szL, szLs]); omega
      · split
        · (try dsimp only); (try simp only [szL, szLs]); omega
        · split
          · (try dsimp only); (try simp only [szL, szLs]); omega
          · split <;> ((try dsimp only); (try simp only [szL, szLs]); omega)
theorem rightS_up (l : L) : ∀ (p q d d' : Int), d ≤ d' → rightS l p q d = true → rightS l p q d' = true := by
  induction l using L.ind with
  | h l ih =>
    intro p q d d' hd h
    obtain ⟨h1, h2, h3, h4⟩ := right_kid h
    rw [rightS_eq]
    simp only [Bool.and_eq_true, decide_eq_true_eq, Bool.not_eq_true', List.any_eq_false, Bool.not_eq_false]
    exact ⟨⟨⟨by omega, h2⟩, h3⟩, fun k hk => ih k hk p q (d - 1) (d' - 1) (by omega) (h4 k hk)⟩
end Pi

