/- Part of the proof: contracts of the program's functions. -/
import Derived.Test.YtglibfclhecbkaaC02e
set_option linter.unusedSimpArgs false
set_option linter.unusedVariables false
namespace Pi
set_option maxRecDepth 100000 in
theorem law02_awake.a : Ans ctx law02_awake.n [] (.b true) := ans_told (n := 600) (by kernel_rfl)
mutual
def fewS (l : L) (m : Int) : Int := match l with
  | .mk _ _ ks => fewL ks (m - 1)
def fewL (ks : List L) (m : Int) : Int := match ks with
  | [] => m
  | k :: r => if 0 < m then fewL r (fewS k m) else m
end
theorem fewS_eq (l : L) (m : Int) : fewS l m = fewL l.kids (m - 1) := by cases l; rfl
theorem fewL_stop (ks : List L) (m : Int) (h : ¬ 0 < m) : fewL ks m = m := by
  cases ks with
  | nil => rfl
  | cons k r => simp only [fewL]; rw [if_neg h]
theorem fewL_bd (ks : List L) (h : ∀ k ∈ ks, ∀ m, 0 < m → 0 ≤ fewS k m ∧ fewS k m < m) : ∀ m, 0 ≤ m → 0 ≤ fewL ks m ∧ fewL ks m ≤ m := by
  induction ks with
  | nil => intro m hm; simp [fewL, hm]
  | cons k r ih =>
    intro m hm
    simp only [fewL]
    split
    · rename_i h0
      have h1 := h k (by simp) m h0
      have h2 := ih (fun k hk => h k (by simp [hk])) (fewS k m) h1.1
      omega
    · omega
theorem fewS_bd (l : L) : ∀ m, 0 < m → 0 ≤ fewS l m ∧ fewS l m < m := by
  induction l using L.ind with
  | h l ih =>
    intro m hm
    rw [fewS_eq]
    have := fewL_bd l.kids ih (m - 1) (by omega)
    omega
theorem law02_few.a (l : L) : l.Ok → ∀ m : Int, 0 < m → m ≤ 1000 → Ans ctx law02_few.n [.ag (cL l), .i .i64 m] (.i .i64 (fewS l m)) := by
  induction l using L.ind with
  | h l ih =>
  intro ok m0 h1 h2
  have hlen := ok.len
  refine ans law02_few.f ?_
  rw [fewS_eq]
  simp +contextual (disch := omega) [Nat.add_assoc, Int.add_assoc, if_pos, if_neg, -Int.not_lt, -Int.not_le, -Nat.not_lt, -Nat.not_le, -List.length_flatMap, law02_few.c]
  generalize hR : fewL l.kids (m0 - 1) = R
  refine for_w (fun i e m x => e 2 = .p 0 0 ∧ m 0 = some (.cells (cL l) false) ∧ e 5 = .i .i64 i ∧ ∃ c, e 1 = .i .i64 c ∧ fewL (l.kids.drop i) c = R ∧ 0 ≤ c ∧ c ≤ 1000) l.kids.length ?_ ?_ ?_
  · simp +contextual (disch := omega) [Nat.add_assoc, Int.add_assoc, if_pos, if_neg, -Int.not_lt, -Int.not_le, -Nat.not_lt, -Nat.not_le, -List.length_flatMap, hR]
    omega
  · rintro i e m x hi ⟨g1, g2, g3, c, g4, g5, g6, g7⟩
    by_cases hc : 0 < c
    · rw [List.drop_eq_getElem_cons hi, fewL, if_pos hc] at g5
      have hk := ih l.kids[i] (List.getElem_mem hi) (ok.at hi) c hc g7
      have hb := fewS_bd l.kids[i] c hc
      simp +contextual (disch := omega) [Nat.add_assoc, Int.add_assoc, if_pos, if_neg, -Int.not_lt, -Int.not_le, -Nat.not_lt, -Nat.not_le, -List.length_flatMap, law02_few.b1, g1, g2, g3, g4, hi, ansK hk, g5]
      omega
    · rw [fewL_stop _ _ hc] at g5
      simp +contextual (disch := omega) [Nat.add_assoc, Int.add_assoc, if_pos, if_neg, -Int.not_lt, -Int.not_le, -Nat.not_lt, -Nat.not_le, -List.length_flatMap, law02_few.b1, g1, g2, g3, g4, hi, g5]
  · rintro e m x ⟨g1, g2, g3, c, g4, g5, g6, g7⟩
    rw [List.drop_length, fewL] at g5
    simp +contextual (disch := omega) [Nat.add_assoc, Int.add_assoc, if_pos, if_neg, -Int.not_lt, -Int.not_le, -Nat.not_lt, -Nat.not_le, -List.length_flatMap, law02_few.b1, g1, g2, g3, g4, g5]
theorem evalS_tu (l : L) (ps ms : List Int) : ∃ a b, evalS l ps ms = .tu [.i .i64 a, .i .i64 b] := by
  unfold evalS
  split <;> exact ⟨_, _, rfl⟩
theorem law02_told.a (a b : L) (oka : a.Ok) (okb : b.Ok) (ps ms : List Int) (h1 : ps.length ≤ 9223372036854775807) (h2 : ms.length ≤ 9223372036854775807) : Ans ctx law02_told.n [.ag (cL a), .ag (cL b), sV cI ps, sV cI ms] (.b true) := by
  refine ans law02_told.f ?_
  obtain ⟨x, y, he⟩ := evalS_tu a ps ms
  simp +contextual (disch := omega) [Nat.add_assoc, Int.add_assoc, if_pos, if_neg, -Int.not_lt, -Int.not_le, -Nat.not_lt, -Nat.not_le, -List.length_flatMap, law02_told.c, ansK (level_Eval.a a oka ps ms h1 h2), ansK (ref02_Eval.a a oka ps ms h1 h2), he, ansK (level_Right.a a oka _ _), ansK (ref02_Right.a a oka _ _), ansK (level_Same.a a oka b okb), ansK (ref02_Same.a a oka b okb)]
theorem numS_tu (n : Int) : ∃ (a : L) (b : Int), numS n = .tu [.ag (cL a), .i .i64 b] ∧ a.Ok := by
  have hn : ∀ k, (numL k).Ok := by
    intro k
    induction k with
    | zero => exact .mk (by simp) (by omega) (by omega) (by simp)
    | succ k ih => exact .mk (by simp) (by omega) (by omega) (by simpa using ih)
  unfold numS
  split
  · exact ⟨_, _, rfl, .mk (by simp) (by omega) (by omega) (by simp)⟩
  · exact ⟨_, _, rfl, hn _⟩
set_option maxRecDepth 20000 in
set_option maxHeartbeats 1000000 in
theorem law02_LevelAny.a (a b : L) (oka : a.Ok) (okb : b.Ok) (ps ms : List Int) (h1 : ps.length ≤ 9223372036854775807) (h2 : ms.length ≤ 9223372036854775807) (n : Int) : Ans ctx law02_LevelAny.n [.ag (cL a), .ag (cL b), sV cI ps, sV cI ms, .i .i64 n] (.b true) := by
  refine ans law02_LevelAny.f ?_
  obtain ⟨x, y, he, okx⟩ := numS_tu n
  simp +contextual (disch := omega) [Nat.add_assoc, Int.add_assoc, if_pos, if_neg, -Int.not_lt, -Int.not_le, -Nat.not_lt, -Nat.not_le, -List.length_flatMap, law02_LevelAny.c, ansK (law02_few.a a oka _ _ _), ansK (law02_few.a b okb _ _ _), ansK law02_awake.a, ansK (level_Num.a n), ansK (ref02_Num.a n), he, ansK (law02_told.a a b oka okb ps ms h1 h2), ansK (level_Right.a a oka _ _), ansK (ref02_Right.a a oka _ _), ansK (ref02_Same.a x okx x okx)]
end Pi
