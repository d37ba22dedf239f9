/- Contracts: stores (layer 11): the document's Add. -/
import Derived.Test.YtfdkpnckflmcaaaC11d
set_option linter.unusedSimpArgs false
set_option linter.unusedVariables false
namespace Pi
theorem right_app_not {vars : Int} {a b : List C} (h2 : rightC vars b = false) (h1 : rightC vars a = true) (h3 : a.length + b.length ≤ 60) : rightC vars (a ++ b) = false := by
  cases h : rightC vars (a ++ b) with
  | false => rfl
  | true =>
    obtain ⟨a1, a2, a3, a4⟩ := right_ok h
    have : rightC vars b = true := by
      simp [rightC]
      exact ⟨by omega, fun c hc => a4 c (List.mem_append_right _ hc)⟩
    rw [h2] at this
    cases this
theorem Xa.ic {A : Nat → Prop} {m m' : Sto} {B : V} {cl : List C} {fs : List V} {x : Nat} (h : Xa A m B cl fs) (u : V) (ids : List Nat) (hm : ∀ j, A j → m' j = aft u m ids j) (hA : ∀ j, A j → j < x) : Ic m' B cl fs x := by
  rcases h with ⟨h1, h2, h3⟩ | ⟨a, h1, h2, h3, h4⟩
  · exact .inr (.inl ⟨h1, h2, h3⟩)
  · obtain ⟨r, e⟩ := aft_cells u ids m a _ _ h2
    exact .inr (.inr ⟨a, r, h1, by rw [hm a h3, e], hA a h3⟩)
theorem or3 {a b : Prop} (h : a ∨ False ∨ b) : a ∨ b := by
  rcases h with h | h | h
  · exact .inl h
  · exact h.elim
  · exact .inr h
end Pi
