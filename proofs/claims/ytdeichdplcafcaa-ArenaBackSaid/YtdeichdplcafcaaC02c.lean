/- Part of the proof: contracts of the program's functions. -/
import Derived.Test.YtdeichdplcafcaaC02b
set_option linter.unusedSimpArgs false
set_option linter.unusedVariables false
namespace Pi
def kidsS (k : Int) : Int := if k = 1 ∨ k = 5 ∨ k = 6 then 0 else if k = 2 then 1 else if k = 3 ∨ k = 4 then 2 else -1
def namedS (l : L) (p q : Int) : Bool := if l.kind = 5 then decide (0 ≤ l.n) && decide (l.n < p) else if l.kind = 6 then decide (0 ≤ l.n) && decide (l.n < q) else decide (l.n = 0)
mutual
def rightS (l : L) (p q d : Int) : Bool := match l with
  | .mk k n ks => decide (0 < d) && decide ((ks.length : Int) = kidsS k) && namedS (.mk k n []) p q && !(oddL ks p q (d - 1))
def oddL (ks : List L) (p q d : Int) : Bool := match ks with
  | [] => false
  | k :: r => !(rightS k p q d) || oddL r p q d
end
theorem oddL_eq (ks : List L) (p q d : Int) : oddL ks p q d = ks.any fun k => !(rightS k p q d) := by
  induction ks with
  | nil => rfl
  | cons k r ih => simp [oddL, ih]
theorem rightS_eq (l : L) (p q d : Int) : rightS l p q d = (decide (0 < d) && decide ((l.kids.length : Int) = kidsS l.kind) && namedS l p q && !(l.kids.any fun k => !(rightS k p q (d - 1)))) := by
  cases l with
  | mk k n ks => simp only [rightS, oddL_eq]; rfl
def RightS (l : L) (p q : Int) : Bool := if p < 0 ∨ 5 < p ∨ q < 0 ∨ 10 < q then false else decide (nodesS l 101 ≤ 100) && rightS l p q 12

theorem level_named.a (l : L) (p q : Int) : Ans ctx level_named.n [.ag (cL l), .i .i64 p, .i .i64 q] (.b (namedS l p q)) := by
  refine ans level_named.f ?_
  simp +contextual (disch := omega) [Nat.add_assoc, Int.add_assoc, if_pos, if_neg, -Int.not_lt, -Int.not_le, -Nat.not_lt, -Nat.not_le, -List.length_flatMap, level_named.c, namedS]
def kindsM : V := .rm [.i .i64 1, .i .i64 2, .i .i64 3, .i .i64 4, .i .i64 5, .i .i64 6]
  [.ag [.i .i64 0, .fn (.func level_kinds_1.n) [] []], .ag [.i .i64 1, .fn (.func level_kinds_2.n) [] []], .ag [.i .i64 2, .fn (.func level_kinds_3.n) [] []],
   .ag [.i .i64 2, .fn (.func level_kinds_4.n) [] []], .ag [.i .i64 0, .fn (.func level_kinds_5.n) [] []], .ag [.i .i64 0, .fn (.func level_kinds_6.n) [] []]]
set_option maxRecDepth 100000 in
theorem level_kinds.a : Ans ctx level_kinds.n [] kindsM := ans_told (n := 300) (by kernel_rfl)
def isK (k : Int) : Bool := decide (1 ≤ k) && decide (k ≤ 6)
def kidN (k : Int) : Int := if k = 2 then 1 else if k = 3 ∨ k = 4 then 2 else 0
def kindF (k : Int) : V := if k = 1 then .fn (.func level_kinds_1.n) [] [] else if k = 2 then .fn (.func level_kinds_2.n) [] [] else if k = 3 then .fn (.func level_kinds_3.n) [] []
  else if k = 4 then .fn (.func level_kinds_4.n) [] [] else if k = 5 then .fn (.func level_kinds_5.n) [] [] else if k = 6 then .fn (.func level_kinds_6.n) [] [] else .nf
theorem kind_of (k : Int) : k = 1 ∨ k = 2 ∨ k = 3 ∨ k = 4 ∨ k = 5 ∨ k = 6 ∨ (k ≠ 1 ∧ k ≠ 2 ∧ k ≠ 3 ∧ k ≠ 4 ∧ k ≠ 5 ∧ k ≠ 6) := by omega
theorem kinds_lk (m : Sto) (k : Int) : lkV m (.one .i) (.ag [.i .i64 0, .nf]) kindsM (.i .i64 k) true = some (.tu [.ag [.i .i64 (kidN k), kindF k], .b (isK k)], []) := by
  unfold kindsM
  rcases kind_of k with rfl | rfl | rfl | rfl | rfl | rfl | ⟨h1, h2, h3, h4, h5, h6⟩
  all_goals simp [kidN, kindF, isK]
  all_goals simp [*]
  omega
@[simp] theorem refOf_kinds : refOf kindsM = [] := (rfl)
theorem kids_of (k n : Int) (h : 0 ≤ n) : decide (n = kidsS k) = (isK k && decide (n = kidN k)) := by
  rcases kind_of k with rfl | rfl | rfl | rfl | rfl | rfl | ⟨h1, h2, h3, h4, h5, h6⟩
  all_goals simp [kidN, kidsS, isK]
  all_goals simp [*]
  rw [Bool.eq_iff_iff]
  simp
  omega

theorem level_right.a (l : L) : l.Ok → ∀ p q d : Int, (0 ≤ d ∧ d ≤ 100) → Ans ctx level_right.n [.ag (cL l), .i .i64 p, .i .i64 q, .i .i64 d] (.b (rightS l p q d)) := by
  induction l using L.ind with
  | h l ih =>
  intro ok p q d hd
  have hlen := ok.len
  refine ans level_right.f ?_
  rw [rightS_eq, kids_of _ _ (by omega)]
  by_cases h0 : 0 < d
  · have hodd : ∀ k ∈ l.kids, Ans ctx level_right_1.n (.ag (cL k) :: [.rp [.i .i64 p], .rp [.i .i64 q], .rp [.i .i64 d]]) (.b (!(rightS k p q (d - 1)))) := by
      intro k hk
      refine ans level_right_1.f ?_
      simp +contextual (disch := omega) [Nat.add_assoc, Int.add_assoc, if_pos, if_neg, -Int.not_lt, -Int.not_le, -Nat.not_lt, -Nat.not_le, -List.length_flatMap, level_right_1.c, ansK (ih k hk (ok.kid hk) p q (d - 1) (by omega))]
    have hc := slices_ContainsFunc_Level.a l.kids level_right_1.n [.rp [.i .i64 p], .rp [.i .i64 q], .rp [.i .i64 d]] (fun k => !(rightS k p q (d - 1))) rfl rfl (by intro D; simp) hodd hlen
    generalize (l.kids.any fun k => !(rightS k p q (d - 1))) = A at hc
    generalize hN : (l.kids.length : Int) = N
    simp +contextual (disch := omega) [Nat.add_assoc, Int.add_assoc, if_pos, if_neg, -Int.not_lt, -Int.not_le, -Nat.not_lt, -Nat.not_le, -List.length_flatMap, level_right.c, h0, ansK level_kinds.a, kinds_lk, ansK (level_named.a _ _ _), ansK hc, hN]
  · simp +contextual (disch := omega) [Nat.add_assoc, Int.add_assoc, if_pos, if_neg, -Int.not_lt, -Int.not_le, -Nat.not_lt, -Nat.not_le, -List.length_flatMap, level_right.c, h0, ansK level_kinds.a, kinds_lk]

theorem level_Right.a (l : L) (ok : l.Ok) (p q : Int) : Ans ctx level_Right.n [.ag (cL l), .i .i64 p, .i .i64 q] (.b (RightS l p q)) := by
  refine ans level_Right.f ?_
  simp +contextual (disch := omega) [Nat.add_assoc, Int.add_assoc, if_pos, if_neg, -Int.not_lt, -Int.not_le, -Nat.not_lt, -Nat.not_le, -List.length_flatMap, level_Right.c, RightS, ansK (level_nodes.a l ok _ _ _), ansK (level_right.a l ok _ _ _ _)]
end Pi

