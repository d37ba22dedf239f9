/- Laws of layer 11: what is told of a store; any store. -/
import Derived.Test.YtfdkpnckflmcaaaC11g
import Derived.Test.YtfdkpnckflmcaaaC10f
set_option linter.unusedSimpArgs false
set_option linter.unusedVariables false
namespace Pi
theorem addV_tu (s : St) (l : List C) (hs : s.Few) : ∃ t a b, addV s l = .tu [.ag (cS t), sV cI a, .i .i64 b] ∧ a.length ≤ 60 ∧ t.Few := by
  unfold addV
  split
  · exact ⟨_, _, _, rfl, by simp, hs⟩
  · rename_i h1
    split
    · exact ⟨_, _, _, rfl, by simp, hs⟩
    · split
      · exact ⟨_, _, _, rfl, by simp, hs⟩
      · rename_i h2 h3
        have c1 : rightS s = true := by simpa using h1
        have hRc : rightC s.vars s.cl = true := by
          unfold rightS at c1
          simp only [Bool.and_eq_true] at c1
          exact c1.1.1
        have hRa := right_app hRc (by simpa using h3) (by omega)
        obtain ⟨r1, r2, r3, r4⟩ := right_ok hRa
        split
        · exact ⟨_, _, _, rfl, by rw [intL_len]; exact Nat.le_trans (coreL_len _ _) r3, hs⟩
        · refine ⟨_, _, _, rfl, by simp, ?_, ?_, ?_, ?_⟩
          · exact ⟨by simp only; omega, fun c hc => Nat.le_trans (okC_six (r4 c hc)) (by omega)⟩
          · simp only; omega
          · have := solveC_len s.vars _ hRa
            simp only; omega
          · exact fun c hc => Nat.le_trans (okC_six (r4 c hc)) (by omega)
theorem followsV_tu (s : St) (a : A) (b : List A) : ∃ x n, followsV s a b = .tu [.b x, .i .i64 n] := by
  unfold followsV
  split
  · exact ⟨_, _, rfl⟩
  · split <;> exact ⟨_, _, rfl⟩
theorem newV_tu (vars : Int) : ∃ s n, newV vars = .tu [.ag (cS s), .i .i64 n] ∧ s.cl = [] ∧ s.md.length ≤ 16 := by
  unfold newV
  split
  · exact ⟨_, _, rfl, rfl, by simp⟩
  · exact ⟨_, _, rfl, rfl, by rw [noughts_len]; omega⟩
theorem St.Few.same {t : St} (h : t.Few) : Ans ctx ref11_Same.n [.ag (cS t), .ag (cS t)] (.b true) := by
  have := ref11_Same.a t t (by have := h.2.2.1; omega) (by have := h.2.1; omega) h.1.2
  simpa using this
end Pi
