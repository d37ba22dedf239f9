/- Where the first thing stands of which something holds, in plain Lean. -/
import Derived.Test.YtdeichdplcafcaaFw4
set_option linter.unusedSimpArgs false
set_option linter.unusedVariables false
namespace Pi
/-- Where the first thing stands of which it holds; -1: nowhere. -/
def idxS {α : Type} (p : α → Bool) (l : List α) : Int := match l.findIdx? p with | some i => i | none => -1
theorem idx_ge {α : Type} (p : α → Bool) (l : List α) : decide (0 ≤ idxS p l) = l.any p := by
  unfold idxS
  cases h : l.findIdx? p with
  | none =>
    rw [List.findIdx?_eq_none_iff] at h
    simp
    intro x hx
    simpa using h x hx
  | some i =>
    rw [List.findIdx?_eq_some_iff_getElem] at h
    obtain ⟨h1, h2, _⟩ := h
    simp
    exact ⟨l[i], List.getElem_mem h1, h2⟩
theorem idx_take {α : Type} {p : α → Bool} {l : List α} {i : Nat} (hi : i < l.length) (h : (l.take i).all (fun a => !p a) = true) : (p l[i] = true → idxS p l = i) ∧ (p l[i] = false → (l.take (i + 1)).all (fun a => !p a) = true) := by
  refine ⟨fun hp => ?_, fun hp => ?_⟩
  · unfold idxS
    have : l.findIdx? p = some i := by
      rw [List.findIdx?_eq_some_iff_getElem]
      refine ⟨hi, hp, fun j hj => ?_⟩
      have := List.all_eq_true.1 h l[j] (by rw [List.mem_take_iff_getElem]; exact ⟨j, by omega, rfl⟩)
      simpa using this
    rw [this]
  · rw [List.take_succ_eq_append_getElem hi, List.all_append, h]
    simp [hp]
theorem idx_all {α : Type} {p : α → Bool} {l : List α} (h : l.all (fun a => !p a) = true) : idxS p l = -1 := by
  unfold idxS
  have : l.findIdx? p = none := by
    rw [List.findIdx?_eq_none_iff]
    intro x hx
    simpa using List.all_eq_true.1 h x hx
  rw [this]
theorem flatI_map (q : List Int) : q.flatMap cI = q.map (V.i .i64) := by induction q <;> simp_all
theorem flatI_len (q : List Int) : (q.flatMap cI).length = q.length := by rw [flatI_map, List.length_map]
theorem flatI_get {q : List Int} {i : Nat} (h : i < (q.flatMap cI).length) : (q.flatMap cI)[i] = V.i .i64 (q[i]'(by rw [flatI_len] at h; exact h)) := by simp [flatI_map]
end Pi

