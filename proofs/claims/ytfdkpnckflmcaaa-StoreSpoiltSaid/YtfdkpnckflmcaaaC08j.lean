/- Laws of layer 8: clauses by numbers; the lesser of two models. -/
import Derived.Test.YtfdkpnckflmcaaaC08i
set_option linter.unusedSimpArgs false
set_option linter.unusedVariables false
namespace Pi
theorem made_ok (n : Nat) (l : List Nat) : ∀ c ∈ madeC n l, okC (varsB n) c = true := (right_ok (madeC_right n l)).2.2.2
theorem made_len (n : Nat) (l : List Nat) : (madeC n l).length ≤ 30 := madeB_len _ _ _
theorem made_six (n : Nat) (l : List Nat) : ∀ c ∈ madeC n l, c.frm.length ≤ 9223372036854775807 := fun c hc => Nat.le_trans (okC_six (made_ok n l c hc)) (by omega)
theorem varsB_bd (n : Nat) : 1 ≤ varsB n ∧ varsB n ≤ 8 := by unfold varsB; omega
theorem modelB_nats (n : Nat) (l : List Nat) : Nats (modelB n l) := by
  intro a ha
  obtain ⟨i, hi, rfl⟩ := List.mem_iff_getElem.1 ha
  have := modelB_bd n l i
  rw [getD_get _ _ hi] at this
  omega
theorem places_mem {α : Type} {p : α → Bool} {l : List α} {i : Nat} (h : i < l.length) : (i : Int) ∈ placesS p l ↔ p l[i] = true := by
  unfold placesS
  simp only [List.mem_map, List.mem_filter]
  constructor
  · rintro ⟨⟨a, j⟩, ⟨h1, h2⟩, h3⟩
    have hj : j = i := by have : (j : Int) = i := h3; omega
    subst hj
    have := List.mem_zipIdx_iff_getElem?.1 h1
    simp only at this
    rw [List.getElem?_eq_getElem h] at this
    cases this
    exact h2
  · intro hp
    exact ⟨(l[i], i), ⟨List.mem_zipIdx_iff_getElem?.2 (by simp [h]), hp⟩, rfl⟩
theorem places_filter {α : Type} {p q : α → Bool} : ∀ {l : List α}, (∀ a ∈ l, p a = q a) → placesS p l = placesS q l := by
  intro l h
  unfold placesS
  congr 1
  apply List.filter_congr
  rintro ⟨a, i⟩ ha
  exact h a (List.fst_mem_of_mem_zipIdx ha)
theorem range_set {n i : Nat} {f g h : Nat → Int} (hi : i < n) : ((List.range n).map fun j => if j < i + 1 then f j else g j) = ((List.range n).map fun j => if j < i then f j else g j).set i (f i) := by
  apply List.ext_getElem
  · simp
  · intro j h1 h2
    simp only [List.getElem_set, List.getElem_map, List.getElem_range]
    by_cases hj : i = j
    · subst hj; simp
    · rw [if_neg hj]
      by_cases hlt : j < i
      · rw [if_pos hlt, if_pos (by omega)]
      · rw [if_neg hlt, if_neg (by omega)]
theorem modelB_self (n : Nat) (v : List Nat) : (List.range (varsB n)).map (fun j => (modelB n v).getD j 0) = modelB n v := by
  apply List.ext_getElem
  · simp [modelB_len]
  · intro j h1 h2
    simp only [List.getElem_map, List.getElem_range]
    exact getD_get _ _ h2
def mixL (N : Nat) (f g : Nat → Int) (i : Nat) : List Int := (List.range N).map fun j => if j < i then f j else g j
theorem mixL_len (N : Nat) (f g : Nat → Int) (i : Nat) : (mixL N f g i).length = N := by simp [mixL]
theorem mixL_s {N i : Nat} {f g : Nat → Int} (hi : i < N) : mixL N f g (i + 1) = (mixL N f g i).set i (f i) := range_set (h := g) hi
theorem mixL_e {N : Nat} {f g : Nat → Int} {j : Nat} (hj : j < N) : (mixL N f g N).getD j 0 = f j := by simp [mixL, hj]
end Pi
