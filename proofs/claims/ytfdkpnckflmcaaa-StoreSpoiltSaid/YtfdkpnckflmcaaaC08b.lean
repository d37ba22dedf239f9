/- Clauses: the stage's theorem, in plain Lean. -/
import Derived.Test.YtfdkpnckflmcaaaC08a
set_option linter.unusedSimpArgs false
set_option linter.unusedVariables false
namespace Pi
theorem fold_min_le (l : List Int) : ∀ b : Int, l.foldl min b ≤ b ∧ ∀ x ∈ l, l.foldl min b ≤ x := by
  induction l with
  | nil => intro b; simp
  | cons a r ih =>
    intro b
    simp only [List.foldl_cons]
    have h := ih (min b a)
    refine ⟨by omega, fun x hx => ?_⟩
    simp at hx
    rcases hx with rfl | hx
    · omega
    · exact h.2 x hx
theorem fold_min_mem (l : List Int) : ∀ b : Int, l.foldl min b = b ∨ l.foldl min b ∈ l := by
  induction l with
  | nil => intro b; simp
  | cons a r ih =>
    intro b
    simp only [List.foldl_cons, List.mem_cons]
    rcases ih (min b a) with h | h
    · rw [h]; omega
    · exact .inr (.inr h)
theorem minS_le (m : List Int) (l : List A) (a : A) (h : a ∈ l) : minS m l ≤ atS m a := (fold_min_le _ _).2 _ (List.mem_map_of_mem h)
theorem minS_mem (m : List Int) (l : List A) (h : l ≠ []) : ∃ a ∈ l, minS m l = atS m a := by
  rcases fold_min_mem (l.map (atS m)) (atS m (l.getD 0 default)) with h1 | h1
  · cases l with
    | nil => exact absurd rfl h
    | cons a r => exact ⟨a, by simp, h1⟩
  · obtain ⟨a, h2, h3⟩ := List.mem_map.1 h1
    exact ⟨a, h2, h3.symm⟩
theorem holds_at {m : List Int} {c : C} : brokenC m c = false ↔ asksS m c ≤ m.getD c.to.var.toNat 0 := by
  unfold brokenC
  simp only [decide_eq_false_iff_not]
  omega
theorem okC_ne {vars : Int} {c : C} (h : okC vars c = true) : c.frm ≠ [] := by
  intro h0
  unfold okC at h
  simp [manyC, h0] at h
theorem okC_six {vars : Int} {c : C} (h : okC vars c = true) : c.frm.length ≤ 6 := by
  simp [okC, manyC] at h
  omega
theorem okC_to {vars : Int} {c : C} (h : okC vars c = true) : 0 ≤ c.to.var ∧ c.to.var < vars ∧ 0 ≤ c.to.off ∧ c.to.off ≤ 1000 := by
  unfold okC at h
  simp only [Bool.and_eq_true, List.all_eq_true] at h
  have := h.2 c.to (by simp)
  simp only [okA, Bool.and_eq_true, decide_eq_true_eq] at this
  omega
theorem okC_frm {vars : Int} {c : C} (h : okC vars c = true) {a : A} (ha : a ∈ c.frm) : 0 ≤ a.var ∧ a.var < vars ∧ 0 ≤ a.off ∧ a.off ≤ 1000 := by
  unfold okC at h
  simp only [Bool.and_eq_true, List.all_eq_true] at h
  have := h.2 a (by simp [ha])
  simp only [okA, Bool.and_eq_true, decide_eq_true_eq] at this
  omega
/-- Models with as much more each: what is broken is the same. -/
theorem broken_up {vars : Nat} (m up : List Int) (c : C) (k : Int) (h : okC vars c = true) (hu : ∀ i, i < vars → up.getD i 0 = m.getD i 0 + k) : brokenC up c = brokenC m c := by
  unfold okC at h
  simp only [Bool.and_eq_true, Bool.not_eq_true', List.all_eq_true] at h
  obtain ⟨h1, h2⟩ := h
  have hne : c.frm ≠ [] := by
    intro h0
    rw [manyC, h0] at h1
    simp at h1
  have hat : ∀ a ∈ c.frm ++ [c.to], atS up a = atS m a + k := by
    intro a ha
    have := h2 a ha
    simp only [okA, Bool.and_eq_true, decide_eq_true_eq] at this
    have := hu a.var.toNat (by omega)
    unfold atS
    omega
  have hto := h2 c.to (by simp)
  simp only [okA, Bool.and_eq_true, decide_eq_true_eq] at hto
  have hto2 := hu c.to.var.toNat (by omega)
  have hmin : minS up c.frm = minS m c.frm + k := by
    obtain ⟨a, a1, a2⟩ := minS_mem up c.frm hne
    obtain ⟨b, b1, b2⟩ := minS_mem m c.frm hne
    have := minS_le up c.frm b b1
    have := minS_le m c.frm a a1
    have := hat a (by simp [a1])
    have := hat b (by simp [b1])
    omega
  unfold brokenC asksS
  rw [hto2, hmin]
  congr 1
  apply propext
  omega
/-- The lesser of two models: where a clause holds of both, it holds of it. -/
theorem broken_less {vars : Nat} (m n less : List Int) (c : C) (h : okC vars c = true) (hm : brokenC m c = false) (hn : brokenC n c = false) (hu : ∀ i, i < vars → less.getD i 0 = min (m.getD i 0) (n.getD i 0)) : brokenC less c = false := by
  unfold okC at h
  simp only [Bool.and_eq_true, Bool.not_eq_true', List.all_eq_true] at h
  obtain ⟨h1, h2⟩ := h
  have hne : c.frm ≠ [] := by
    intro h0
    rw [manyC, h0] at h1
    simp at h1
  have hat : ∀ a ∈ c.frm ++ [c.to], atS less a = min (atS m a) (atS n a) := by
    intro a ha
    have := h2 a ha
    simp only [okA, Bool.and_eq_true, decide_eq_true_eq] at this
    have := hu a.var.toNat (by omega)
    unfold atS
    omega
  have hto := h2 c.to (by simp)
  simp only [okA, Bool.and_eq_true, decide_eq_true_eq] at hto
  have hto2 := hu c.to.var.toNat (by omega)
  unfold brokenC asksS at *
  simp only [decide_eq_false_iff_not] at *
  rw [hto2]
  obtain ⟨a, a1, a2⟩ := minS_mem m c.frm hne
  obtain ⟨b, b1, b2⟩ := minS_mem n c.frm hne
  have := minS_le less c.frm a a1
  have := minS_le less c.frm b b1
  have := hat a (by simp [a1])
  have := hat b (by simp [b1])
  omega
end Pi
