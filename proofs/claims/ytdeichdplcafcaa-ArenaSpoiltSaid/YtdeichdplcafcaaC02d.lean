/- Part of the proof: contracts of the program's functions. -/
import Derived.Test.YtdeichdplcafcaaC02c
set_option linter.unusedSimpArgs false
set_option linter.unusedVariables false
namespace Pi
def imaxS (a b : Int) : Int := if b = 0 then 0 else max a b
def valK (k n : Int) (ps ms vs : List Int) : Int :=
  if k = 2 then vs.getD 0 0 + 1 else if k = 3 then max (vs.getD 0 0) (vs.getD 1 0) else if k = 4 then imaxS (vs.getD 0 0) (vs.getD 1 0)
  else if k = 5 then ps.getD n.toNat 0 else if k = 6 then ms.getD n.toNat 0 else 0
mutual
def lvS (l : L) (ps ms : List Int) : Int := match l with
  | .mk k n ks => valK k n ps ms (lvL ks ps ms)
def lvL (ks : List L) (ps ms : List Int) : List Int := match ks with
  | [] => []
  | k :: r => lvS k ps ms :: lvL r ps ms
end
theorem lvL_eq (ks : List L) (ps ms : List Int) : lvL ks ps ms = ks.map fun k => lvS k ps ms := by
  induction ks with
  | nil => rfl
  | cons k r ih => simp [lvL, ih]
theorem lvS_eq (l : L) (ps ms : List Int) : lvS l ps ms = valK l.kind l.n ps ms (l.kids.map fun k => lvS k ps ms) := by
  cases l with
  | mk k n ks => simp only [lvS, lvL_eq]; rfl
theorem kidsS_le (k : Int) : kidsS k ≤ 2 := by
  unfold kidsS
  split
  · omega
  · split
    · omega
    · split <;> omega
/-- What is right is so, kid by kid. -/
theorem right_kid {l : L} {p q d : Int} (h : rightS l p q d = true) : 0 < d ∧ (l.kids.length : Int) = kidsS l.kind ∧ namedS l p q = true ∧ ∀ k ∈ l.kids, rightS k p q (d - 1) = true := by
  rw [rightS_eq] at h
  simp only [Bool.and_eq_true, decide_eq_true_eq, Bool.not_eq_true', List.any_eq_false, Bool.not_eq_false] at h
  exact ⟨h.1.1.1, h.1.1.2, h.1.2, h.2⟩
theorem right_kind {l : L} {p q d : Int} (h : rightS l p q d = true) : l.kind = 1 ∨ l.kind = 2 ∨ l.kind = 3 ∨ l.kind = 4 ∨ l.kind = 5 ∨ l.kind = 6 := by
  have h2 := (right_kid h).2.1
  unfold kidsS at h2
  split at h2
  · omega
  · split at h2
    · omega
    · split at h2 <;> omega
theorem lvS_bd (l : L) : ∀ (ps ms : List Int) (p q d : Int), Nats ps → Nats ms → rightS l p q d = true → 0 ≤ lvS l ps ms ∧ lvS l ps ms ≤ 1099511627776 + (d - 1) := by
  induction l using L.ind with
  | h l ih =>
    intro ps ms p q d hp hm h
    obtain ⟨h1, h2, h3, h4⟩ := right_kid h
    rw [lvS_eq]
    have hv : ∀ i : Nat, i < l.kids.length → 0 ≤ (l.kids.map fun k => lvS k ps ms).getD i 0 ∧ (l.kids.map fun k => lvS k ps ms).getD i 0 ≤ 1099511627776 + (d - 2) := by
      intro i hi
      have e1 : (l.kids.map fun k => lvS k ps ms).getD i 0 = lvS l.kids[i] ps ms := by simp [hi]
      rw [e1]
      have := ih _ (List.getElem_mem hi) ps ms p q (d - 1) hp hm (h4 _ (List.getElem_mem hi))
      omega
    have a1 := hp.getD l.n.toNat
    have a2 := hm.getD l.n.toNat
    rcases right_kind h with hk | hk | hk | hk | hk | hk <;> rw [hk] at h2 <;> simp [kidsS] at h2 <;> simp only [valK, hk, imaxS]
    · simp; omega
    · have := hv 0 (by omega)
      simp at this ⊢; omega
    · have b1 := hv 0 (by omega)
      have b2 := hv 1 (by omega)
      simp at b1 b2 ⊢; omega
    · have b1 := hv 0 (by omega)
      have b2 := hv 1 (by omega)
      simp at b1 b2 ⊢
      split <;> omega
    · simp at a1 ⊢; omega
    · simp at a2 ⊢; omega

theorem len_two {α : Type} {l : List α} (h : l.length = 2) : ∃ a b, l = [a, b] := by
  match l, h with
  | [a, b], _ => exact ⟨a, b, rfl⟩
abbrev cV (ps ms : List Int) : V := .ag [sV cI ps, sV cI ms]
theorem level_kinds_1.a (l : L) (ps ms vs : List Int) : Ans ctx level_kinds_1.n [.ag (cL l), cV ps ms, sV cI vs] (.i .i64 0) := by
  refine ans level_kinds_1.f ?_
  simp +contextual (disch := omega) [Nat.add_assoc, Int.add_assoc, if_pos, if_neg, -Int.not_lt, -Int.not_le, -Nat.not_lt, -Nat.not_le, -List.length_flatMap, level_kinds_1.c]
theorem level_kinds_2.a (l : L) (ps ms : List Int) (a : Int) (ha : 0 ≤ a ∧ a ≤ 1099511628776) : Ans ctx level_kinds_2.n [.ag (cL l), cV ps ms, sV cI [a]] (.i .i64 (a + 1)) := by
  refine ans level_kinds_2.f ?_
  simp +contextual (disch := omega) [Nat.add_assoc, Int.add_assoc, if_pos, if_neg, -Int.not_lt, -Int.not_le, -Nat.not_lt, -Nat.not_le, -List.length_flatMap, level_kinds_2.c]
theorem level_kinds_3.a (l : L) (ps ms : List Int) (a b : Int) : Ans ctx level_kinds_3.n [.ag (cL l), cV ps ms, sV cI [a, b]] (.i .i64 (max a b)) := by
  refine ans level_kinds_3.f ?_
  simp +contextual (disch := omega) [Nat.add_assoc, Int.add_assoc, if_pos, if_neg, -Int.not_lt, -Int.not_le, -Nat.not_lt, -Nat.not_le, -List.length_flatMap, level_kinds_3.c]
theorem level_kinds_4.a (l : L) (ps ms : List Int) (a b : Int) : Ans ctx level_kinds_4.n [.ag (cL l), cV ps ms, sV cI [a, b]] (.i .i64 (imaxS a b)) := by
  refine ans level_kinds_4.f ?_
  simp +contextual (disch := omega) [Nat.add_assoc, Int.add_assoc, if_pos, if_neg, -Int.not_lt, -Int.not_le, -Nat.not_lt, -Nat.not_le, -List.length_flatMap, level_kinds_4.c, ansK (level_imax.a a b), imaxS]
theorem level_kinds_5.a (l : L) (ps ms vs : List Int) (h : 0 ≤ l.n ∧ l.n < ps.length) : Ans ctx level_kinds_5.n [.ag (cL l), cV ps ms, sV cI vs] (.i .i64 (ps.getD l.n.toNat 0)) := by
  refine ans level_kinds_5.f ?_
  have : l.n.toNat < ps.length := by omega
  simp +contextual (disch := omega) [Nat.add_assoc, Int.add_assoc, if_pos, if_neg, -Int.not_lt, -Int.not_le, -Nat.not_lt, -Nat.not_le, -List.length_flatMap, level_kinds_5.c, this]
theorem level_kinds_6.a (l : L) (ps ms vs : List Int) (h : 0 ≤ l.n ∧ l.n < ms.length) : Ans ctx level_kinds_6.n [.ag (cL l), cV ps ms, sV cI vs] (.i .i64 (ms.getD l.n.toNat 0)) := by
  refine ans level_kinds_6.f ?_
  have : l.n.toNat < ms.length := by omega
  simp +contextual (disch := omega) [Nat.add_assoc, Int.add_assoc, if_pos, if_neg, -Int.not_lt, -Int.not_le, -Nat.not_lt, -Nat.not_le, -List.length_flatMap, level_kinds_6.c, this]

/-- What a level is, by values. -/
def evalS (l : L) (ps ms : List Int) : V := if RightS l ps.length ms.length = false ∨ ps.any oddN = true ∨ ms.any oddN = true then .tu [.i .i64 0, .i .i64 1] else .tu [.i .i64 (lvS l ps ms), .i .i64 0]
theorem RightS_r {l : L} {p q : Int} (h : RightS l p q = true) : rightS l p q 12 = true := by
  unfold RightS at h
  split at h
  · cases h
  · simp at h; exact h.2
end Pi
