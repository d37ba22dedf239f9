/- Laws of layer 11: what is told of a store; any store. -/
import Derived.Test.YtfdkpnckflmcaaaC11g
import Derived.Test.YtfdkpnckflmcaaaC10f
set_option linter.unusedSimpArgs false
set_option linter.unusedVariables false
namespace Pi
theorem ref11_New.a (vars : Int) : Ans ctx ref11_New.n [.i .i64 vars] (newV vars) := by
  refine ans ref11_New.f ?_
  unfold newV
  by_cases h : vars < 1 ∨ 16 < vars
  · rw [if_pos h]
    by_cases h1 : vars < 1
    · simp +contextual (disch := omega) [Nat.add_assoc, Int.add_assoc, if_pos, if_neg, -Int.not_lt, -Int.not_le, -Nat.not_lt, -Nat.not_le, -List.length_flatMap, ref11_New.c, h1, cS]
    · simp +contextual (disch := omega) [Nat.add_assoc, Int.add_assoc, if_pos, if_neg, -Int.not_lt, -Int.not_le, -Nat.not_lt, -Nat.not_le, -List.length_flatMap, ref11_New.c, h1, cS]
  · rw [if_neg h]
    obtain ⟨n, rfl⟩ : ∃ n : Nat, vars = n := ⟨vars.toNat, by omega⟩
    have hcl : ((noughts n).flatMap cI).length = n := by rw [flatI_len, noughts_len]
    have htk := flatI_all (noughts_len n).symm
    simp +contextual (disch := omega) [Nat.add_assoc, Int.add_assoc, if_pos, if_neg, -Int.not_lt, -Int.not_le, -Nat.not_lt, -Nat.not_le, -List.length_flatMap, ref11_New.c, zeros_noughts, hcl, htk, cS]
    exact (noughts_len n).symm
theorem addV_tu (s : St) (l : List C) (hs : s.Few) : ∃ t a b, addV s l = .tu [.ag (cS t), sV cI a, .i .i64 b] ∧ a.length ≤ 60 ∧ t.Few := by
  unfold addV
  split
  · exact ⟨_, _, _, rfl, by simp, hs⟩
  · rename_i h1
    split
    · exact ⟨_, _, _, rfl, by simp, hs⟩
    · split
      · exact ⟨_, _, _, rfl, by simp, hs⟩
      · rename_i h2 h3
        have c1 : rightS s = true := by simpa using h1
        have hRc : rightC s.vars s.cl = true := by
          unfold rightS at c1
          simp only [Bool.and_eq_true] at c1
          exact c1.1.1
        have hRa := right_app hRc (by simpa using h3) (by omega)
        obtain ⟨r1, r2, r3, r4⟩ := right_ok hRa
        split
        · exact ⟨_, _, _, rfl, by rw [intL_len]; exact Nat.le_trans (coreL_len _ _) r3, hs⟩
        · refine ⟨_, _, _, rfl, by simp, ?_, ?_, ?_, ?_⟩
          · exact ⟨by simp only; omega, fun c hc => Nat.le_trans (okC_six (r4 c hc)) (by omega)⟩
          · simp only; omega
          · have := solveC_len s.vars _ hRa
            simp only; omega
          · exact fun c hc => Nat.le_trans (okC_six (r4 c hc)) (by omega)
theorem followsV_tu (s : St) (a : A) (b : List A) : ∃ x n, followsV s a b = .tu [.b x, .i .i64 n] := by
  unfold followsV
  split
  · exact ⟨_, _, rfl⟩
  · split <;> exact ⟨_, _, rfl⟩
theorem newV_tu (vars : Int) : ∃ s n, newV vars = .tu [.ag (cS s), .i .i64 n] ∧ s.cl = [] ∧ s.md.length ≤ 16 := by
  unfold newV
  split
  · exact ⟨_, _, rfl, rfl, by simp⟩
  · exact ⟨_, _, rfl, rfl, by rw [noughts_len]; omega⟩
theorem St.Few.same {t : St} (h : t.Few) : Ans ctx ref11_Same.n [.ag (cS t), .ag (cS t)] (.b true) := by
  have := ref11_Same.a t t (by have := h.2.2.1; omega) (by have := h.2.1; omega) h.1.2
  simpa using this
set_option maxRecDepth 20000 in
set_option maxHeartbeats 1000000 in
theorem law11_told.a (s : St) (l : List C) (a : A) (b : List A) (hs : s.Few) (hl : l.length ≤ 1000000) (hf : ∀ c ∈ l, c.frm.length ≤ 9223372036854775807) (hb : b.length ≤ 1000000) : Ans ctx law11_told.n [.ag (cS s), sV cC l, .ag (cA a), sV cA b] (.b true) := by
  obtain ⟨vs, hvs⟩ : ∃ vs, vs = [V.ag (cS s), sV cC l, V.ag (cA a), sV cA b] := ⟨_, rfl⟩
  rw [← hvs]
  refine ans law11_told.f ?_
  obtain ⟨t, d, n, e1, hd, ht⟩ := addV_tu s l hs
  obtain ⟨is, k, e2⟩ := followsV_tu s a b
  have h1 := store_Add.a s l hs hl hf
  have h2 := ref11_Add.a s l hs hl hf
  have h3 := store_Follows.a s a b hs hb
  have h4 := ref11_Follows.a s a b hs hb
  rw [e1] at h1 h2
  rw [e2] at h3 h4
  simp +contextual (disch := omega) [Nat.add_assoc, Int.add_assoc, if_pos, if_neg, -Int.not_lt, -Int.not_le, -Nat.not_lt, -Nat.not_le, -List.length_flatMap, hvs, law11_told.c, ansK h1, ansK h2, ansK h3, ansK h4, ansK (store_Right.a s hs.1), ansK (ref11_Right.a s hs.1), ansK ht.same, ansK (ref08_Ints.a d d (by omega))]
end Pi
