/- Part of the proof: contracts of the program's functions. -/
import Derived.Test.YtdeichdplcafcaaCode
import Derived.Test.YtdeichdplcafcaaEnc
set_option linter.unusedSimpArgs false
set_option linter.unusedVariables false
namespace Pi
mutual
def nodesS (l : L) (most : Int) : Int := match l with
  | .mk _ _ ks => nodesL ks most 1
def nodesL (ks : List L) (most n : Int) : Int := match ks with
  | [] => n
  | k :: r => nodesL r most (if n < most then n + nodesS k (most - n) else n)
end
def nodesF (most n : Int) (k : L) : Int := if n < most then n + nodesS k (most - n) else n
theorem nodesL_eq (ks : List L) (most n : Int) : nodesL ks most n = ks.foldl (nodesF most) n := by
  induction ks generalizing n with
  | nil => simp [nodesL]
  | cons k r ih => simp [nodesL, ih, nodesF]
theorem nodesS_eq (l : L) (most : Int) : nodesS l most = l.kids.foldl (nodesF most) 1 := by
  cases l; simp [nodesS, nodesL_eq]
theorem nodesS_bd (l : L) : ∀ most, 1 ≤ nodesS l most ∧ (nodesS l most ≤ most ∨ nodesS l most = 1) := by
  induction l using L.ind with
  | h l ih =>
    intro most
    rw [nodesS_eq]
    refine fold_inv (P := fun n => 1 ≤ n ∧ (n ≤ most ∨ n = 1)) (fun n k hk hn => ?_) ⟨by omega, .inr rfl⟩
    have := ih k hk (most - n)
    unfold nodesF
    split <;> omega
theorem level_nodes.a (l : L) : l.Ok → ∀ most, -1000 < most → most < 1000 → Ans ctx level_nodes.n [.ag (cL l), .i .i64 most] (.i .i64 (nodesS l most)) := by
  induction l using L.ind with
  | h l ih =>
  intro ok most h1 h2
  have hlen := ok.len
  refine ans level_nodes.f ?_
  simp +contextual (disch := omega) [Nat.add_assoc, Int.add_assoc, if_pos, if_neg, -Int.not_lt, -Int.not_le, -Nat.not_lt, -Nat.not_le, -List.length_flatMap, level_nodes.c]
  refine for_w (fun i e m x => e 1 = .i .i64 most ∧ e 9 = sV cL l.kids ∧ e 10 = .i .i64 l.kids.length ∧ e 11 = .i .i64 i ∧ ∃ n, e 5 = .i .i64 n ∧ (l.kids.take i).foldl (nodesF most) 1 = n ∧ 1 ≤ n ∧ (n ≤ most ∨ n = 1)) l.kids.length ?_ ?_ ?_
  · simp
  · rintro i e m x hi ⟨g1, g2, g3, g4, n, g5, g6, g7, g8⟩
    have hk := ih l.kids[i] (List.getElem_mem hi) (ok.at hi)
    have hb := nodesS_bd l.kids[i] (most - n)
    simp +contextual (disch := omega) [Nat.add_assoc, Int.add_assoc, if_pos, if_neg, -Int.not_lt, -Int.not_le, -Nat.not_lt, -Nat.not_le, -List.length_flatMap, level_nodes.b1, hi, g1, g2, g3, g4, g5, g6, ansK (hk _ _ _), take_fold, nodesF, IfK]
    omega
  · rintro e m x ⟨g1, g2, g3, g4, n, g5, g6, g7, g8⟩
    simp +contextual (disch := omega) [Nat.add_assoc, Int.add_assoc, if_pos, if_neg, -Int.not_lt, -Int.not_le, -Nat.not_lt, -Nat.not_le, -List.length_flatMap, level_nodes.b1, g1, g2, g3, g4, g5]
    simpa [nodesS_eq] using g6.symm
end Pi

