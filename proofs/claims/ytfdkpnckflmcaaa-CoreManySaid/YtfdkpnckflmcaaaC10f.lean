/- Laws of layer 10: Core is what the document says. -/
import Derived.Test.YtfdkpnckflmcaaaC10e
import Derived.Test.YtfdkpnckflmcaaaC08i
set_option linter.unusedSimpArgs false
set_option linter.unusedVariables false
namespace Pi
theorem coreL_len (n : Nat) (l : List C) : (coreL n l).length ≤ l.length := by
  unfold coreL
  suffices h : ∀ (is now : List Nat), (is.foldl (stepL n l) now).length ≤ now.length by
    have := h (List.range l.length) (List.range l.length)
    rwa [List.length_range] at this
  intro is
  induction is with
  | nil => intro now; exact Nat.le_refl _
  | cons i is ih =>
    intro now
    refine Nat.le_trans (ih _) ?_
    unfold stepL
    split
    · exact less_len _ _
    · exact Nat.le_refl _
theorem coreV_tu (vars : Int) (l : List C) : ∃ a b, coreV vars l = .tu [sV cI a, .i .i64 b] ∧ a.length ≤ 60 := by
  unfold coreV
  split
  · rename_i h
    obtain ⟨r1, r2, r3, r4⟩ := right_ok h
    split
    · exact ⟨_, _, rfl, by rw [intL_len]; exact Nat.le_trans (coreL_len _ _) r3⟩
    · exact ⟨_, _, rfl, by simp⟩
  · exact ⟨_, _, rfl, by simp⟩
set_option maxRecDepth 20000 in
theorem law10_same.a (vars : Int) (l : List C) (p : List Int) (hl : l.length ≤ 9223372036854775807) (hf : ∀ c ∈ l, c.frm.length ≤ 9223372036854775807) (hp : p.length ≤ 1000) : Ans ctx law10_same.n [.i .i64 vars, sV cC l, sV cI p] (.b true) := by
  refine ans law10_same.f ?_
  have h1 := core_Core.a vars l hl hf
  have h2 := ref10_Core.a vars l hl hf
  obtain ⟨a, b, e, hn⟩ := coreV_tu vars l
  rw [e] at h1 h2
  have h3 := core_Proves.a vars l p hl hf hp
  have h4 := ref10_Proves.a vars l p hl hf hp
  have h5 := core_Proves.a vars l a hl hf (by omega)
  have h6 := ref10_Proves.a vars l a hl hf (by omega)
  simp +contextual (disch := omega) [Nat.add_assoc, Int.add_assoc, if_pos, if_neg, -Int.not_lt, -Int.not_le, -Nat.not_lt, -Nat.not_le, -List.length_flatMap, law10_same.c, ansK h1, ansK h2, ansK h3, ansK h4, ansK h5, ansK h6, ansK (ref08_Ints.a a a (by omega))]
theorem law10_CoreAny.a (vars : Int) (l : List C) (p : List Int) (hl : l.length ≤ 9223372036854775807) (ok : ∀ c ∈ l, c.Ok) (hp : p.length ≤ 9223372036854775807) : Ans ctx law10_CoreAny.n [.i .i64 vars, sV cC l, sV cI p] (.b true) := by
  refine ans law10_CoreAny.f ?_
  have hf : ∀ c ∈ l, c.frm.length ≤ 9223372036854775807 := fun c hc => Nat.le_trans (ok c hc).1 (by decide)
  simp +contextual (disch := omega) [Nat.add_assoc, Int.add_assoc, if_pos, if_neg, -Int.not_lt, -Int.not_le, -Nat.not_lt, -Nat.not_le, -List.length_flatMap, law10_CoreAny.c]
  refine for_w (fun i e m x => e 0 = .i .i64 vars ∧ e 1 = sV cC l ∧ e 2 = sV cI p ∧ e 8 = .i .i64 i ∧ ∃ n, e 7 = .i .i64 n) l.length ?_ ?_ ?_
  · simp +contextual (disch := omega) [Nat.add_assoc, Int.add_assoc, if_pos, if_neg, -Int.not_lt, -Int.not_le, -Nat.not_lt, -Nat.not_le, -List.length_flatMap]
  · rintro i e m x hi ⟨g1, g2, g3, g4, n, g5⟩
    by_cases hn : n ≤ 100
    · by_cases h1 : 20 < l[i].to.off
      · by_cases h2 : l[i].to.off ≤ 1000
        · simp +contextual (disch := omega) [Nat.add_assoc, Int.add_assoc, if_pos, if_neg, -Int.not_lt, -Int.not_le, -Nat.not_lt, -Nat.not_le, -List.length_flatMap, law10_CoreAny.b1, g1, g2, g3, g4, g5, hi]
        · simp +contextual (disch := omega) [Nat.add_assoc, Int.add_assoc, if_pos, if_neg, -Int.not_lt, -Int.not_le, -Nat.not_lt, -Nat.not_le, -List.length_flatMap, law10_CoreAny.b1, g1, g2, g3, g4, g5, hi]
      · simp +contextual (disch := omega) [Nat.add_assoc, Int.add_assoc, if_pos, if_neg, -Int.not_lt, -Int.not_le, -Nat.not_lt, -Nat.not_le, -List.length_flatMap, law10_CoreAny.b1, g1, g2, g3, g4, g5, hi]
    · simp +contextual (disch := omega) [Nat.add_assoc, Int.add_assoc, if_pos, if_neg, -Int.not_lt, -Int.not_le, -Nat.not_lt, -Nat.not_le, -List.length_flatMap, law10_CoreAny.b1, g1, g2, g3, g4, g5, hi]
  · rintro e m x ⟨g1, g2, g3, g4, n, g5⟩
    by_cases hn : n ≤ 100
    · by_cases hm2 : 100 < p.length
      · simp +contextual (disch := omega) [Nat.add_assoc, Int.add_assoc, if_pos, if_neg, -Int.not_lt, -Int.not_le, -Nat.not_lt, -Nat.not_le, -List.length_flatMap, law10_CoreAny.b1, g1, g2, g3, g4, g5]
      · simp +contextual (disch := omega) [Nat.add_assoc, Int.add_assoc, if_pos, if_neg, -Int.not_lt, -Int.not_le, -Nat.not_lt, -Nat.not_le, -List.length_flatMap, law10_CoreAny.b1, g1, g2, g3, g4, g5, ansK (law10_same.a vars l p hl hf (by omega))]
    · simp +contextual (disch := omega) [Nat.add_assoc, Int.add_assoc, if_pos, if_neg, -Int.not_lt, -Int.not_le, -Nat.not_lt, -Nat.not_le, -List.length_flatMap, law10_CoreAny.b1, g1, g2, g3, g4, g5]
theorem natL_intL (p : List Nat) : natL (intL p) = p := by
  unfold natL intL
  rw [List.map_map]
  conv => rhs; rw [← List.map_id p]
  apply List.map_congr_left
  intro a _
  simp
theorem rise_pair {n : Nat} : ∀ (p : List Nat) (a : Int), (∀ i ∈ p, i < n ∧ a < (i : Int)) → p.Pairwise (· < ·) → riseB n a (intL p) = true := by
  intro p
  induction p with
  | nil => intro a _ _; rfl
  | cons b p ih =>
    intro a h hp
    have hb := h b (List.mem_cons_self)
    rw [List.pairwise_cons] at hp
    show (decide (a < (b : Int)) && decide ((b : Int) < n) && riseB n b (intL p)) = true
    rw [ih b (fun i hi => ⟨(h i (List.mem_cons_of_mem _ hi)).1, by have := hp.1 i hi; omega⟩) hp.2]
    simp
    omega
theorem less_cut : ∀ (p : List Nat) (i : Nat) (hi : i < p.length), p.Pairwise (· < ·) → p.take i ++ p.drop (i + 1) = lessL p p[i] := by
  intro p
  induction p with
  | nil => intro i hi; simp at hi
  | cons b p ih =>
    intro i hi hp
    rw [List.pairwise_cons] at hp
    cases i with
    | zero =>
      simp only [List.take_zero, List.nil_append, List.drop_succ_cons, List.drop_zero, List.getElem_cons_zero]
      unfold lessL
      rw [List.filter_cons_of_neg (by simp)]
      symm
      rw [List.filter_eq_self]
      intro j hj
      have := hp.1 j hj
      simp; omega
    | succ i =>
      have hi' : i < p.length := by simpa using hi
      have := ih i hi' hp.2
      simp only [List.take_succ_cons, List.drop_succ_cons, List.cons_append, List.getElem_cons_succ]
      rw [this]
      unfold lessL
      rw [List.filter_cons_of_pos]
      have := hp.1 _ (List.getElem_mem hi')
      simp; omega
end Pi
