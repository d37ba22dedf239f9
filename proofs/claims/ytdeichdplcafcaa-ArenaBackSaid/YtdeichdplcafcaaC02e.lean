/- Part of the proof: contracts of the program's functions. -/
import Derived.Test.YtdeichdplcafcaaC02d
set_option linter.unusedSimpArgs false
set_option linter.unusedVariables false
namespace Pi
/-- Two lists, pair by pair. -/
def zipAll {α β : Type} (p : α → β → Bool) : List α → List β → Bool
  | [], [] => true
  | a :: r, b :: s => p a b && zipAll p r s
  | _, _ => false
theorem zipAll_len {α β : Type} {p : α → β → Bool} : ∀ {l : List α} {m : List β}, l.length ≠ m.length → zipAll p l m = false
  | [], [], h => absurd rfl h
  | [], _ :: _, _ => rfl
  | _ :: _, [], _ => rfl
  | a :: r, b :: s, h => by
    simp only [zipAll]
    rw [zipAll_len (by simpa using h)]
    simp
theorem zipAll_false {α β : Type} {p : α → β → Bool} : ∀ {l : List α} {m : List β} {i : Nat} (h1 : i < l.length) (h2 : i < m.length), p l[i] m[i] = false → zipAll p l m = false
  | a :: r, b :: s, 0, h1, h2, h => by simp at h; simp [zipAll, h]
  | a :: r, b :: s, i + 1, h1, h2, h => by
    simp only [zipAll]
    rw [zipAll_false (i := i) (by simpa using h1) (by simpa using h2) (by simpa using h)]
    simp
theorem zipAll_true {α β : Type} {p : α → β → Bool} : ∀ {l : List α} {m : List β}, l.length = m.length → (∀ (i : Nat) (h1 : i < l.length) (h2 : i < m.length), p l[i] m[i] = true) → zipAll p l m = true
  | [], [], _, _ => rfl
  | a :: r, b :: s, h, k => by
    simp only [zipAll, Bool.and_eq_true]
    exact ⟨k 0 (by simp) (by simp), zipAll_true (by simpa using h) (fun i h1 h2 => k (i + 1) (by simpa using h1) (by simpa using h2))⟩
  | [], _ :: _, h, _ => by simp at h
  | _ :: _, [], h, _ => by simp at h
mutual
def sameS (a b : L) : Bool := match a, b with
  | .mk k n ks, .mk k' n' ks' => decide (k = k') && decide (n = n') && sameL ks ks'
def sameL (a b : List L) : Bool := match a, b with
  | [], [] => true
  | x :: r, y :: s => sameS x y && sameL r s
  | [], _ :: _ => false
  | _ :: _, [] => false
end
theorem sameL_eq (a b : List L) : sameL a b = zipAll sameS a b := by
  induction a generalizing b with
  | nil => cases b <;> simp [sameL, zipAll]
  | cons x r ih => cases b <;> simp [sameL, zipAll, ih]
theorem sameS_eq (a b : L) : sameS a b = (decide (a.kind = b.kind) && decide (a.n = b.n) && zipAll sameS a.kids b.kids) := by
  cases a; cases b
  simp only [sameS, sameL_eq]
  rfl
theorem zipAll_eq {α : Type} {p : α → α → Bool} : ∀ {l m : List α}, (∀ a ∈ l, ∀ b, p a b = true → a = b) → zipAll p l m = true → l = m
  | [], [], _, _ => rfl
  | a :: r, b :: s, h, k => by
    simp only [zipAll, Bool.and_eq_true] at k
    rw [h a (by simp) b k.1, zipAll_eq (fun x hx => h x (by simp [hx])) k.2]
  | [], _ :: _, _, k => by simp [zipAll] at k
  | _ :: _, [], _, k => by simp [zipAll] at k
theorem sameS_iff (a : L) : ∀ b, sameS a b = true ↔ a = b := by
  induction a using L.ind with
  | h a ih =>
    intro b
    rw [sameS_eq]
    simp only [Bool.and_eq_true, decide_eq_true_eq]
    constructor
    · rintro ⟨⟨h1, h2⟩, h3⟩
      have := zipAll_eq (fun x hx y => (ih x hx y).1) h3
      cases a; cases b
      simp at h1 h2 this
      subst h1 h2 this
      rfl
    · rintro rfl
      exact ⟨⟨rfl, rfl⟩, zipAll_true rfl fun i h1 h2 => (ih _ (List.getElem_mem h1) _).2 rfl⟩
@[simp] theorem sameS_refl (a : L) : sameS a a = true := (sameS_iff a a).2 rfl

theorem ref02_Same.a (a : L) : a.Ok → ∀ b : L, b.Ok → Ans ctx ref02_Same.n [.ag (cL a), .ag (cL b)] (.b (sameS a b)) := by
  induction a using L.ind with
  | h a ih =>
  intro oka b okb
  refine ans ref02_Same.f ?_
  rw [sameS_eq]
  have hla := oka.len
  by_cases h1 : a.kind = b.kind ∧ a.n = b.n ∧ a.kids.length = b.kids.length
  · obtain ⟨h1, h2, h3⟩ := h1
    simp +contextual (disch := omega) [Nat.add_assoc, Int.add_assoc, if_pos, if_neg, -Int.not_lt, -Int.not_le, -Nat.not_lt, -Nat.not_le, -List.length_flatMap, ref02_Same.c, h1, h2, h3]
    refine for_w (fun i e m x => e 2 = .p 0 0 ∧ e 3 = .p 1 0 ∧ m 0 = some (.cells (cL a) false) ∧ m 1 = some (.cells (cL b) false) ∧ e 5 = .i .i64 i ∧ ∀ (j : Nat) (h1 : j < a.kids.length) (h2 : j < b.kids.length), j < i → sameS a.kids[j] b.kids[j] = true) a.kids.length ?_ ?_ ?_
    · simp +contextual (disch := omega) [Nat.add_assoc, Int.add_assoc, if_pos, if_neg, -Int.not_lt, -Int.not_le, -Nat.not_lt, -Nat.not_le, -List.length_flatMap]
    · rintro i e m x hi ⟨g1, g2, g3, g4, g5, g6⟩
      have hi' : i < b.kids.length := by omega
      have hk := ih a.kids[i] (List.getElem_mem hi) (oka.at hi) b.kids[i] (okb.at hi')
      cases hp : sameS a.kids[i] b.kids[i] with
      | true =>
        rw [hp] at hk
        simp +contextual (disch := omega) [Nat.add_assoc, Int.add_assoc, if_pos, if_neg, -Int.not_lt, -Int.not_le, -Nat.not_lt, -Nat.not_le, -List.length_flatMap, ref02_Same.b1, g1, g2, g3, g4, g5, hi, hi', ansK hk]
        intro j h1 h2 h3
        by_cases hj : j = i
        · subst hj; exact hp
        · exact g6 j h1 h2 (by omega)
      | false =>
        rw [hp] at hk
        simp +contextual (disch := omega) [Nat.add_assoc, Int.add_assoc, if_pos, if_neg, -Int.not_lt, -Int.not_le, -Nat.not_lt, -Nat.not_le, -List.length_flatMap, ref02_Same.b1, g1, g2, g3, g4, g5, hi, hi', ansK hk, zipAll_false hi hi' hp]
    · rintro e m x ⟨g1, g2, g3, g4, g5, g6⟩
      have := zipAll_true (p := sameS) h3 (fun j h1 h2 => g6 j h1 h2 h1)
      simp +contextual (disch := omega) [Nat.add_assoc, Int.add_assoc, if_pos, if_neg, -Int.not_lt, -Int.not_le, -Nat.not_lt, -Nat.not_le, -List.length_flatMap, ref02_Same.b1, g1, g2, g3, g4, g5, this]
  · have hf : (decide (a.kind = b.kind) && decide (a.n = b.n) && zipAll sameS a.kids b.kids) = false := by
      by_cases q1 : a.kind = b.kind
      · by_cases q2 : a.n = b.n
        · rw [zipAll_len (fun q3 => h1 ⟨q1, q2, q3⟩)]; simp
        · simp [q2]
      · simp [q1]
    rw [hf]
    simp +contextual (disch := omega) [Nat.add_assoc, Int.add_assoc, if_pos, if_neg, -Int.not_lt, -Int.not_le, -Nat.not_lt, -Nat.not_le, -List.length_flatMap, ref02_Same.c]
end Pi

