/- Contracts: arenas (layer 4): the document's put. -/
import Derived.Test.YtdeichdplcafcaaC04g
import Derived.Test.YtdeichdplcafcaaC02i
set_option linter.unusedSimpArgs false
set_option linter.unusedVariables false
namespace Pi
theorem putN_len (l : L) : ∀ (p q : Int) (d : Nat) (ns : List N), rightS l p q d = true → (putN l ns).1.length ≤ ns.length + (2 ^ d - 1) ∧ ns.length ≤ (putN l ns).1.length := by
  induction l using L.ind with
  | h l ih =>
  intro p q d ns hr
  obtain ⟨h1, h2, h3, h4⟩ := right_kid hr
  obtain ⟨e, rfl⟩ : ∃ e, d = e + 1 := ⟨d - 1, by omega⟩
  have h4' : ∀ k ∈ l.kids, rightS k p q (e : Nat) = true := fun k hk => by
    have := h4 k hk
    rwa [(by omega : (((e + 1 : Nat) : Int) - 1) = (e : Nat))] at this
  have hk2 : l.kids.length ≤ 2 := by rcases kidsS_cases l.kind with h | h | h | h <;> omega
  have h2e : 2 ^ (e + 1) = 2 ^ e * 2 := Nat.pow_succ 2 e
  have hpos : 0 < 2 ^ e := Nat.pow_pos (by omega)
  have key : (putKs l.kids ns).1.length ≤ ns.length + (2 ^ (e + 1) - 2) ∧ ns.length ≤ (putKs l.kids ns).1.length := by
    match hks : l.kids with
    | [] => rw [putKs_nil]; simp
    | [a] =>
      rw [putKs_cons, putKs_nil]
      have := ih a (by simp [hks]) p q e ns (h4' a (by simp [hks]))
      simp only
      omega
    | [a, b] =>
      rw [putKs_cons, putKs_cons, putKs_nil]
      have h5 := ih a (by simp [hks]) p q e ns (h4' a (by simp [hks]))
      have h6 := ih b (by simp [hks]) p q e (putN a ns).1 (h4' b (by simp [hks]))
      simp only
      omega
    | a :: b :: c :: r => rw [hks] at hk2; simp at hk2
  rw [putN_eq]
  split
  · simp only; omega
  · simp; omega
end Pi

