/- Laws of layer 4: arenas by numbers. -/
import Derived.Test.YtdeichdplcafcaaC04l
set_option linter.unusedSimpArgs false
set_option linter.unusedVariables false
namespace Pi
/-- What Put makes of an arena. -/
def putA (l : List N) (k : L) : List N := if rightN l = true ∧ RightS k 5 10 = true ∧ (putN k l).1.length ≤ 1000 then (putN k l).1 else l
theorem putV_A (l : List N) (k : L) : ∃ a e, putV l k = .tu [.ag [sV cN (putA l k)], .i .i64 a, .i .i64 e] := by
  unfold putV putA
  split
  · rename_i h
    split
    · rename_i h2
      rw [if_pos ⟨h.1, h.2, h2⟩]
      exact ⟨_, _, rfl⟩
    · rename_i h2
      rw [if_neg (fun g => h2 g.2.2)]
      exact ⟨_, _, rfl⟩
  · rename_i h
    rw [if_neg (fun g => h ⟨g.1, g.2.1⟩)]
    exact ⟨_, _, rfl⟩
theorem putA_len {l : List N} {k : L} (h : l.length ≤ 1000) : (putA l k).length ≤ 1000 := by
  unfold putA
  split
  · rename_i g; exact g.2.2
  · exact h
/-- The arena of some lists of numbers. -/
def arenaT (ls : List (List Nat)) : Nat → List N
  | 0 => []
  | i + 1 => putA (arenaT ls i) (madeS (ls.getD i []) 5 10)
theorem arenaT_len (ls : List (List Nat)) : ∀ i, (arenaT ls i).length ≤ 1000
  | 0 => by simp [arenaT]
  | i + 1 => putA_len (arenaT_len ls i)
def arenaS (ls : List (List Nat)) : List N := arenaT ls (min ls.length 8)
set_option maxRecDepth 20000 in
theorem law04_Arena.a (ls : List (List Nat)) (hb : ∀ l ∈ ls, Byt l) (hl : ls.length ≤ 9223372036854775807) : Ans ctx law04_Arena.n [sV cY ls] (.ag [sV cN (arenaS ls)]) := by
  refine ans law04_Arena.f ?_
  obtain ⟨R, hR⟩ : ∃ R, R = arenaS ls := ⟨_, rfl⟩
  rw [← hR]
  unfold arenaS at hR
  simp +contextual (disch := omega) [Nat.add_assoc, Int.add_assoc, if_pos, if_neg, -Int.not_lt, -Int.not_le, -Nat.not_lt, -Nat.not_le, -List.length_flatMap, law04_Arena.c]
  refine for_w (fun i e m x => e 0 = sV cY ls ∧ e 2 = .p 0 0 ∧ e 3 = .p 1 0 ∧ e 4 = .i .i64 i ∧ 2 ≤ x ∧ m 0 = some (.cells [.ns] false) ∧ (m 1 = some (.cells [sV cN (arenaT ls i)] false) ∨ (i = 0 ∧ m 1 = some (.cells [.ns] false)))) (min ls.length 8) ?_ ?_ ?_
  · simp +contextual (disch := omega) [Nat.add_assoc, Int.add_assoc, if_pos, if_neg, -Int.not_lt, -Int.not_le, -Nat.not_lt, -Nat.not_le, -List.length_flatMap]
  · rintro i e m x hi ⟨g0, g2, g3, g4, gx, y0, y2⟩
    have hi1 : i < ls.length := by omega
    have hi2 : i < 8 := by omega
    have hM : Ans ctx law02_Made.n [sV cU ls[i], .i .i64 5, .i .i64 10] (.ag (cL (madeS ls[i] 5 10))) := law02_Made.a ls[i] (hb _ (List.getElem_mem hi1)) 5 10 (by omega) (by omega)
    have hgd : ls.getD i [] = ls[i] := by simp [hi1]
    obtain ⟨a, e, hp⟩ := putV_A (arenaT ls i) (madeS ls[i] 5 10)
    have hP := ref04_Put.a (arenaT ls i) (by have := arenaT_len ls i; omega) (madeS ls[i] 5 10) (madeS_ok _ _ _ (by omega) (by omega))
    rw [hp] at hP
    rw [arenaT, hgd]
    rcases y2 with y2 | ⟨rfl, y2⟩
    · simp +contextual (disch := omega) [Nat.add_assoc, Int.add_assoc, if_pos, if_neg, -Int.not_lt, -Int.not_le, -Nat.not_lt, -Nat.not_le, -List.length_flatMap, law04_Arena.b1, g0, g2, g3, g4, y0, y2, hi1, hi2, ansK hM, ansK hP]
    · rw [show arenaT ls 0 = [] from rfl] at hP ⊢
      rw [show sV cN [] = V.sl [] 0 from rfl] at hP
      simp +contextual (disch := omega) [Nat.add_assoc, Int.add_assoc, if_pos, if_neg, -Int.not_lt, -Int.not_le, -Nat.not_lt, -Nat.not_le, -List.length_flatMap, law04_Arena.b1, g0, g2, g3, g4, y0, y2, hi1, hi2, ansK hM, ansK hP]
  · rintro e m x ⟨g0, g2, g3, g4, gx, y0, y2⟩
    rcases y2 with y2 | ⟨h0, y2⟩
    · by_cases h : ls.length ≤ 8
      · have e1 : min ls.length 8 = ls.length := by omega
        rw [e1] at hR g4 y2
        simp +contextual (disch := omega) [Nat.add_assoc, Int.add_assoc, if_pos, if_neg, -Int.not_lt, -Int.not_le, -Nat.not_lt, -Nat.not_le, -List.length_flatMap, law04_Arena.b1, g0, g2, g3, g4, y0, y2, hR]
      · have e1 : min ls.length 8 = 8 := by omega
        rw [e1] at hR g4 y2
        simp +contextual (disch := omega) [Nat.add_assoc, Int.add_assoc, if_pos, if_neg, -Int.not_lt, -Int.not_le, -Nat.not_lt, -Nat.not_le, -List.length_flatMap, law04_Arena.b1, g0, g2, g3, g4, y0, y2, hR, h]
    · have e1 : ls.length = 0 := by omega
      rw [h0] at hR g4
      simp +contextual (disch := omega) [Nat.add_assoc, Int.add_assoc, if_pos, if_neg, -Int.not_lt, -Int.not_le, -Nat.not_lt, -Nat.not_le, -List.length_flatMap, law04_Arena.b1, g0, g2, g3, g4, y0, y2, e1, hR]
      simp [arenaT]
theorem arenaS_len (ls : List (List Nat)) : (arenaS ls).length ≤ 1000 := arenaT_len ls _
set_option maxRecDepth 20000 in
theorem law04_ArenaMade.a (ls : List (List Nat)) (hb : ∀ l ∈ ls, Byt l) (hl : ls.length ≤ 9223372036854775807) (k : List Nat) (hk : Byt k) : Ans ctx law04_ArenaMade.n [sV cY ls, sV cU k] (.b true) := by
  have hA := law04_Arena.a ls hb hl
  have hM : Ans ctx law02_Made.n [sV cU k, .i .i64 5, .i .i64 10] (.ag (cL (madeS k 5 10))) := law02_Made.a k hk 5 10 (by omega) (by omega)
  have ok : (madeS k 5 10).Ok := madeS_ok _ _ _ (by omega) (by omega)
  have hlen := arenaS_len ls
  generalize arenaS ls = l at *
  generalize madeS k 5 10 = x at *
  refine ans law04_ArenaMade.f ?_
  simp +contextual (disch := omega) [Nat.add_assoc, Int.add_assoc, if_pos, if_neg, -Int.not_lt, -Int.not_le, -Nat.not_lt, -Nat.not_le, -List.length_flatMap, law04_ArenaMade.c, ansK hA, ansK hM]
  refine for_w (fun i e m x1 => e 5 = .p 2 0 ∧ e 6 = .p 5 0 ∧ e 7 = .i .i64 ((i : Int) - 1) ∧ 6 ≤ x1 ∧ m 2 = some (.cells [sV cN l] false) ∧ m 5 = some (.cells (cL x) false)) (min (l.length + 2) 41) ?_ ?_ ?_
  · simp +contextual (disch := omega) [Nat.add_assoc, Int.add_assoc, if_pos, if_neg, -Int.not_lt, -Int.not_le, -Nat.not_lt, -Nat.not_le, -List.length_flatMap]
  · rintro i e m x1 hi ⟨g5, g6, g7, gx, y0, y3⟩
    have hT := law04_told.a l x ok ((i : Int) - 1) (by omega)
    simp +contextual (disch := omega) [Nat.add_assoc, Int.add_assoc, if_pos, if_neg, -Int.not_lt, -Int.not_le, -Nat.not_lt, -Nat.not_le, -List.length_flatMap, law04_ArenaMade.b1, g5, g6, g7, y0, y3, ansK hT]
  · rintro e m x1 ⟨g5, g6, g7, gx, y0, y3⟩
    simp +contextual (disch := omega) [Nat.add_assoc, Int.add_assoc, if_pos, if_neg, -Int.not_lt, -Int.not_le, -Nat.not_lt, -Nat.not_le, -List.length_flatMap, law04_ArenaMade.b1, g5, g6, g7, y0, y3, ansK law04_awake.a]
end Pi
