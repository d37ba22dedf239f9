/- Laws of layer 9: clauses that lead from one variable to the next one. -/
import Derived.Test.YtndjnkbjmddhiaaC09i
set_option linter.unusedSimpArgs false
set_option linter.unusedVariables false
namespace Pi
def chC (off : Int) (i : Nat) : C := ⟨[⟨i, 0⟩], ⟨(i : Int) + 1, off⟩⟩
set_option maxRecDepth 20000 in
set_option maxHeartbeats 1000000 in
theorem law09_SolveChain.a (n : Nat) (hn : n < 256) (off : Nat) (ho : off < 65536) (back : Nat) (hb : back < 65536) (rnd : Bool) : Ans ctx law09_SolveChain.n [.i .u8 n, .i .u16 off, .i .u16 back, .b rnd] (.b true) := by
  refine ans law09_SolveChain.f ?_
  obtain ⟨N, hN⟩ : ∃ N : Nat, N = 2 + n % 15 := ⟨_, rfl⟩
  have hv : (2 : Int) + (n : Int) % 15 = (N : Nat) := by omega
  obtain ⟨o, hoo⟩ : ∃ o : Nat, o = off % 1001 := ⟨_, rfl⟩
  have hov : (off : Int) % 1001 = (o : Nat) := by omega
  obtain ⟨P, hP⟩ : ∃ P : Nat, P = o * (N - 1) := ⟨_, rfl⟩
  have hPv : (o : Int) * ((N : Int) - 1) = (P : Nat) := by
    have : ((N : Int) - 1) = ((N - 1 : Nat) : Int) := by omega
    rw [this, hP]; simp
  have hPb : P ≤ 1000 * 15 := hP ▸ Nat.mul_le_mul (by omega) (by omega)
  have hnl := noughts_len N
  have hcl : ((noughts N).flatMap cI).length = N := by rw [flatI_len, hnl]
  have htk := flatI_all hnl.symm
  have hnv : sV cI (noughts N) = .sl ((noughts N).flatMap cI) N := by unfold sV; rw [hnl]
  have same : ∀ l : List C, l.length ≤ 16 → (∀ c ∈ l, c.frm.length ≤ 1) → Ans ctx law09_same.n [.i .i64 N, sV cC l, .sl ((noughts N).flatMap cI) N] (.b true) := fun l h1 h2 => by
    rw [← hnv]; exact law09_same.a N l (noughts N) (by omega) (fun c hc => Nat.le_trans (h2 c hc) (by omega)) (by omega)
  have hch : ∀ c ∈ (List.range (N - 1)).map (chC o), c.frm.length ≤ 1 := by
    intro c hc
    obtain ⟨i, _, rfl⟩ := List.mem_map.1 hc
    exact Nat.le_refl _
  simp +contextual (disch := omega) [Nat.add_assoc, Int.add_assoc, if_pos, if_neg, -Int.not_lt, -Int.not_le, -Nat.not_lt, -Nat.not_le, -List.length_flatMap, law09_SolveChain.c, Int.tmod_eq_emod_of_nonneg, hv]
  refine for_w (fun i e m x => e 1 = .i .u16 off ∧ e 2 = .i .u16 back ∧ e 3 = .b rnd ∧ e 9 = .i .i64 N ∧ e 11 = .i .i64 i ∧ Bn m (e 10) cC 3 ((List.range i).map (chC o)) 0 x 1) (N - 1) ?_ ?_ ?_
  · simp +contextual (disch := omega) [Nat.add_assoc, Int.add_assoc, if_pos, if_neg, -Int.not_lt, -Int.not_le, -Nat.not_lt, -Nat.not_le, -List.length_flatMap]
    exact Bn.nil
  · rintro i e m x hi ⟨g1, g2, g3, g9, g11, g10⟩
    simp +contextual (disch := omega) [Nat.add_assoc, Int.add_assoc, if_pos, if_neg, -Int.not_lt, -Int.not_le, -Nat.not_lt, -Nat.not_le, -List.length_flatMap, law09_SolveChain.b1, g1, g2, g3, g9, g11, hi, Int.tmod_eq_emod_of_nonneg, hov]
    refine g10.ap (chC o i) (by simp +contextual (disch := omega) [Nat.add_assoc, Int.add_assoc, if_pos, if_neg, -Int.not_lt, -Int.not_le, -Nat.not_lt, -Nat.not_le, -List.length_flatMap]) (by omega) (by omega) ?_ rfl (by omega) (by simp; omega) ?_
    · exact FzAt.cons ((Bf.mem (f := cA) (l := [⟨i, 0⟩]) (cs := [.i .i64 i, .i .i64 0]) (lo := x) (x := x + 8) (m := (m.set (x + 7) (some (.cells [.i .i64 i, .i .i64 0] false)))) (by simp +contextual (disch := omega) [Nat.add_assoc, Int.add_assoc, if_pos, if_neg, -Int.not_lt, -Int.not_le, -Nat.not_lt, -Nat.not_le, -List.length_flatMap]) rfl rfl (by omega) (by omega)).at.wide (by omega) (by omega) (fun j h1 h2 => by simp +contextual (disch := omega) [Nat.add_assoc, Int.add_assoc, if_pos, if_neg, -Int.not_lt, -Int.not_le, -Nat.not_lt, -Nat.not_le, -List.length_flatMap])) (FzAt.fr (by simp))
    · intro B' ws m2 p0 p1 p2 p3
      simp +contextual (disch := omega) [Nat.add_assoc, Int.add_assoc, if_pos, if_neg, -Int.not_lt, -Int.not_le, -Nat.not_lt, -Nat.not_le, -List.length_flatMap, p0, g1, g2, g3, g9, g11]
      have e : (List.range (i + 1)).map (chC o) = (List.range i).map (chC o) ++ [chC o i] := by rw [List.range_succ, List.map_append]; rfl
      exact p1.to e.symm (by omega)
  · rintro e m x ⟨g1, g2, g3, g9, g11, g10⟩
    cases rnd
    · obtain ⟨ids, hz⟩ := (g10.up (m' := m.set (x + 10) (some (.cells ((noughts N).flatMap cI) false))) (x' := x + 20) (by omega) (fun j h1 h2 => by simp +contextual (disch := omega) [Nat.add_assoc, Int.add_assoc, if_pos, if_neg, -Int.not_lt, -Int.not_le, -Nat.not_lt, -Nat.not_le, -List.length_flatMap])).fz24 (by omega)
      simp +contextual (disch := omega) [Nat.add_assoc, Int.add_assoc, if_pos, if_neg, -Int.not_lt, -Int.not_le, -Nat.not_lt, -Nat.not_le, -List.length_flatMap, law09_SolveChain.b1, g1, g2, g3, g9, g11, zeros_noughts, hcl, htk, hz, ansK (same _ (by simp; omega) hch)]
    · simp +contextual (disch := omega) [Nat.add_assoc, Int.add_assoc, if_pos, if_neg, -Int.not_lt, -Int.not_le, -Nat.not_lt, -Nat.not_le, -List.length_flatMap, law09_SolveChain.b1, g1, g2, g3, g9, g11, Int.tmod_eq_emod_of_nonneg, hov, hPv]
      obtain ⟨K, hK⟩ : ∃ K : Int, K = max 0 (min (P : Int) 1000 - (back : Int) % 3) := ⟨_, rfl⟩
      rw [← hK]
      have e1 : ((N : Int) - 1) = ((N - 1 : Nat) : Int) := by omega
      refine g10.ap ⟨[⟨((N - 1 : Nat) : Int), K⟩], ⟨0, 0⟩⟩ (by simp +contextual (disch := omega) [Nat.add_assoc, Int.add_assoc, if_pos, if_neg, -Int.not_lt, -Int.not_le, -Nat.not_lt, -Nat.not_le, -List.length_flatMap]) (by omega) (by omega) ?_ rfl (by omega) (by simp; omega) ?_
      · rw [e1]
        exact FzAt.cons ((Bf.mem (f := cA) (l := [⟨((N - 1 : Nat) : Int), K⟩]) (cs := [.i .i64 ((N - 1 : Nat) : Int), .i .i64 K]) (lo := x) (x := x + 24) (m := (m.set (x + 23) (some (.cells [.i .i64 ((N - 1 : Nat) : Int), .i .i64 K] false)))) (by simp +contextual (disch := omega) [Nat.add_assoc, Int.add_assoc, if_pos, if_neg, -Int.not_lt, -Int.not_le, -Nat.not_lt, -Nat.not_le, -List.length_flatMap]) rfl rfl (by omega) (by omega)).at.wide (by omega) (by omega) (fun j h1 h2 => by simp +contextual (disch := omega) [Nat.add_assoc, Int.add_assoc, if_pos, if_neg, -Int.not_lt, -Int.not_le, -Nat.not_lt, -Nat.not_le, -List.length_flatMap])) (FzAt.fr (by simp))
      · intro B' ws m2 p0 p1 p2 p3
        by_cases hbig : 1000 < P
        · rcases p1 with ⟨_, h⟩ | ⟨a, cs, rfl, r1, ⟨r2, r3⟩, r4, r5⟩
          · simp at h
          · obtain ⟨Q, hQ⟩ : ∃ Q, Q = (List.range (N - 1)).map (chC o) ++ [⟨[⟨((N - 1 : Nat) : Int), K⟩], ⟨0, 0⟩⟩] := ⟨_, rfl⟩
            rw [← hQ] at r2 r3
            have hQl : Q.length = N := by rw [hQ]; simp; omega
            have hQt : (Q.flatMap cC).take ((N - 1) * 3) = ((List.range (N - 1)).map (chC o)).flatMap cC := by
              rw [flat_take, hQ, List.take_append_of_le_length (by simp), List.take_of_length_le (by simp)]
            have hQf : (Q.flatMap cC).length = N * 3 := by rw [flat_len (k := 3), hQl]
            obtain ⟨ids, hz⟩ := r3 (m2.set (x + 47) (some (.cells ((noughts N).flatMap cI) false))) (fun j h1 h2 h3 => by simp +contextual (disch := omega) [Nat.add_assoc, Int.add_assoc, if_pos, if_neg, -Int.not_lt, -Int.not_le, -Nat.not_lt, -Nat.not_le, -List.length_flatMap]) 23 (by omega)
            have hS := same _ (by simp; omega) hch
            have hsv : sV cC ((List.range (N - 1)).map (chC o)) = .sl (((List.range (N - 1)).map (chC o)).flatMap cC) (N - 1) := by unfold sV; simp
            rw [hsv] at hS
            simp +contextual (disch := omega) [Nat.add_assoc, Int.add_assoc, if_pos, if_neg, -Int.not_lt, -Int.not_le, -Nat.not_lt, -Nat.not_le, -List.length_flatMap, p0, g1, g2, g9, Int.tmod_eq_emod_of_nonneg, hov, hPv, zeros_noughts, hcl, htk, r1, hz, hQt, hQf, ansK hS]
        · obtain ⟨ids, hz⟩ := (p1.up (m' := m2.set (x + 41) (some (.cells ((noughts N).flatMap cI) false))) (x' := x + 60) (by omega) (fun j h1 h2 => by simp +contextual (disch := omega) [Nat.add_assoc, Int.add_assoc, if_pos, if_neg, -Int.not_lt, -Int.not_le, -Nat.not_lt, -Nat.not_le, -List.length_flatMap])).fz24 (by omega)
          have hS := same ((List.range (N - 1)).map (chC o) ++ [⟨[⟨((N - 1 : Nat) : Int), K⟩], ⟨0, 0⟩⟩]) (by simp; omega) (by
            intro c hc
            rcases List.mem_append.1 hc with hc | hc
            · exact hch c hc
            · rw [List.mem_singleton.1 hc]; exact Nat.le_refl _)
          simp +contextual (disch := omega) [Nat.add_assoc, Int.add_assoc, if_pos, if_neg, -Int.not_lt, -Int.not_le, -Nat.not_lt, -Nat.not_le, -List.length_flatMap, p0, g1, g2, g9, Int.tmod_eq_emod_of_nonneg, hov, hPv, zeros_noughts, hcl, htk, hz, ansK hS]
end Pi
