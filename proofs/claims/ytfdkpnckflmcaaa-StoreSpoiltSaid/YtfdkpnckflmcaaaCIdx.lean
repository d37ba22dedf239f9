/- Where the first thing stands of which something holds, in plain Lean. -/
import Derived.Test.YtfdkpnckflmcaaaFw4
set_option linter.unusedSimpArgs false
set_option linter.unusedVariables false
namespace Pi
/-- Where the first thing stands of which it holds; -1: nowhere. -/
def idxS {α : Type} (p : α → Bool) (l : List α) : Int := match l.findIdx? p with | some i => i | none => -1
theorem idx_ge {α : Type} (p : α → Bool) (l : List α) : decide (0 ≤ idxS p l) = l.any p := by
  unfold idxS
  cases h : l.findIdx? p with
  | none =>
    rw [List.findIdx?_eq_none_iff] at h
    simp
    intro x hx
    simpa using h x hx
  | some i =>
    rw [List.findIdx?_eq_some_iff_getElem] at h
    obtain ⟨h1, h2, _⟩ := h
    simp
    exact ⟨l[i], List.getElem_mem h1, h2⟩
theorem idx_take {α : Type} {p : α → Bool} {l : List α} {i : Nat} (hi : i < l.length) (h : (l.take i).all (fun a => !p a) = true) : (p l[i] = true → idxS p l = i) ∧ (p l[i] = false → (l.take (i + 1)).all (fun a => !p a) = true) := by
  refine ⟨fun hp => ?_, fun hp => ?_⟩
  · unfold idxS
    have : l.findIdx? p = some i := by
      rw [List.findIdx?_eq_some_iff_getElem]
      refine ⟨hi, hp, fun j hj => ?_⟩
      have := List.all_eq_true.1 h l[j] (by rw [List.mem_take_iff_getElem]; exact ⟨j, by omega, rfl⟩)
      simpa using this
    rw [this]
  · rw [List.take_succ_eq_append_getElem hi, List.all_append, h]
    simp [hp]
theorem idx_all {α : Type} {p : α → Bool} {l : List α} (h : l.all (fun a => !p a) = true) : idxS p l = -1 := by
  unfold idxS
  have : l.findIdx? p = none := by
    rw [List.findIdx?_eq_none_iff]
    intro x hx
    simpa using List.all_eq_true.1 h x hx
  rw [this]
/-- Numbers from 0 to 2^40. -/
def Nats (l : List Int) : Prop := ∀ a ∈ l, 0 ≤ a ∧ a ≤ 1099511627776
theorem Nats.getD {l : List Int} (h : Nats l) (i : Nat) : 0 ≤ l.getD i 0 ∧ l.getD i 0 ≤ 1099511627776 := by
  by_cases hi : i < l.length
  · have : l.getD i 0 = l[i] := by simp [hi]
    rw [this]
    exact h _ (List.getElem_mem hi)
  · have : l.getD i 0 = 0 := by simp [List.getElem?_eq_none (by omega : l.length ≤ i)]
    omega
/-- Is a number no value? -/
def oddN (n : Int) : Bool := decide (n < 0) || decide (1099511627776 < n)
theorem nats_iff {l : List Int} : l.any oddN = false ↔ Nats l := by
  unfold Nats
  rw [List.any_eq_false]
  constructor
  · intro h a ha
    have := h a ha
    simp [oddN] at this
    omega
  · intro h a ha
    have := h a ha
    simp [oddN]
    omega
theorem get_at {α : Type} (l : List α) (d : α) {i : Nat} (h : i < l.length) : l[i]? = some (l.getD i d) := by simp [h]
theorem getD_get {α : Type} (l : List α) (d : α) {i : Nat} (h : i < l.length) : l.getD i d = l[i] := by simp [h]
theorem take_set {α : Type} {cs : List α} {j : Nat} {v : α} (h : j < cs.length) : cs.take j ++ v :: cs.drop (j + 1) = cs.set j v := by
  rw [List.set_eq_take_append_cons_drop, if_pos h]
theorem take_any {α : Type} {p : α → Bool} {l : List α} {k : Nat} (hk : k < l.length) : (l.take (k + 1)).any p = ((l.take k).any p || p l[k]) := by
  rw [List.take_succ_eq_append_getElem hk, List.any_append]
  simp
theorem take_all {α : Type} {p : α → Bool} {l : List α} {k : Nat} (hk : k < l.length) (h : (l.take k).all p = true) (hp : p l[k] = true) : (l.take (k + 1)).all p = true := by
  rw [List.take_succ_eq_append_getElem hk, List.all_append, h]
  simp [hp]
theorem all_at {α : Type} {p : α → Bool} {l : List α} {k : Nat} (hk : k < l.length) (hp : p l[k] = false) : l.all p = false := List.all_eq_false.2 ⟨_, List.getElem_mem hk, by simp [hp]⟩
theorem any_at {α : Type} {p : α → Bool} {l : List α} {k : Nat} (hk : k < l.length) (hp : p l[k] = true) : l.any p = true := List.any_eq_true.2 ⟨_, List.getElem_mem hk, hp⟩
theorem flatI_map (q : List Int) : q.flatMap cI = q.map (V.i .i64) := by induction q <;> simp_all
theorem flatI_len (q : List Int) : (q.flatMap cI).length = q.length := by rw [flatI_map, List.length_map]
theorem flatI_get {q : List Int} {i : Nat} (h : i < (q.flatMap cI).length) : (q.flatMap cI)[i] = V.i .i64 (q[i]'(by rw [flatI_len] at h; exact h)) := by simp [flatI_map]
theorem flatI_set {l : List Int} {j : Nat} {v : Int} (h : j < l.length) : (l.flatMap cI).take j ++ V.i .i64 v :: (l.flatMap cI).drop (j + 1) = (l.set j v).flatMap cI := by
  rw [flatI_map, flatI_map, take_set (by simpa using h), List.map_set]
theorem flatI_all {q : List Int} {n : Nat} (h : n = q.length) : (q.flatMap cI).take n = q.flatMap cI := List.take_of_length_le (by rw [flatI_len]; omega)
end Pi
