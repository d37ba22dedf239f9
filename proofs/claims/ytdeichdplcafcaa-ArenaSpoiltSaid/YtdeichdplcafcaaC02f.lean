/- Part of the proof: contracts of the program's functions. -/
import Derived.Test.YtdeichdplcafcaaC02e
set_option linter.unusedSimpArgs false
set_option linter.unusedVariables false
namespace Pi
mutual
def fewS (l : L) (m : Int) : Int := match l with
  | .mk _ _ ks => fewL ks (m - 1)
def fewL (ks : List L) (m : Int) : Int := match ks with
  | [] => m
  | k :: r => if 0 < m then fewL r (fewS k m) else m
end
theorem fewS_eq (l : L) (m : Int) : fewS l m = fewL l.kids (m - 1) := by cases l; rfl
theorem fewL_stop (ks : List L) (m : Int) (h : ¬ 0 < m) : fewL ks m = m := by
  cases ks with
  | nil => rfl
  | cons k r => simp only [fewL]; rw [if_neg h]
theorem fewL_bd (ks : List L) (h : ∀ k ∈ ks, ∀ m, 0 < m → 0 ≤ fewS k m ∧ fewS k m < m) : ∀ m, 0 ≤ m → 0 ≤ fewL ks m ∧ fewL ks m ≤ m := by
  induction ks with
  | nil => intro m hm; simp [fewL, hm]
  | cons k r ih =>
    intro m hm
    simp only [fewL]
    split
    · rename_i h0
      have h1 := h k (by simp) m h0
      have h2 := ih (fun k hk => h k (by simp [hk])) (fewS k m) h1.1
      omega
    · omega
theorem fewS_bd (l : L) : ∀ m, 0 < m → 0 ≤ fewS l m ∧ fewS l m < m := by
  induction l using L.ind with
  | h l ih =>
    intro m hm
    rw [fewS_eq]
    have := fewL_bd l.kids ih (m - 1) (by omega)
    omega
theorem evalS_tu (l : L) (ps ms : List Int) : ∃ a b, evalS l ps ms = .tu [.i .i64 a, .i .i64 b] := by
  unfold evalS
  split <;> exact ⟨_, _, rfl⟩
theorem numS_tu (n : Int) : ∃ (a : L) (b : Int), numS n = .tu [.ag (cL a), .i .i64 b] ∧ a.Ok := by
  have hn : ∀ k, (numL k).Ok := by
    intro k
    induction k with
    | zero => exact .mk (by simp) (by omega) (by omega) (by simp)
    | succ k ih => exact .mk (by simp) (by omega) (by omega) (by simpa using ih)
  unfold numS
  split
  · exact ⟨_, _, rfl, .mk (by simp) (by omega) (by omega) (by simp)⟩
  · exact ⟨_, _, rfl, hn _⟩
end Pi
