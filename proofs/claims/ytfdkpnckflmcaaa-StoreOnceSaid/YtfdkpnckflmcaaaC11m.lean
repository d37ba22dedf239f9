/- Laws of layer 11: one by one is as at once. -/
import Derived.Test.YtfdkpnckflmcaaaC11k
set_option linter.unusedSimpArgs false
set_option linter.unusedVariables false
namespace Pi
set_option maxHeartbeats 1000000 in
theorem law11_StoreOnce.a (n : Nat) (hn : n < 256) (l : List Nat) (hb : Byt l) (hl : l.length ≤ 9223372036854775807) : Ans ctx law11_StoreOnce.n [.i .u8 n, sV cU l] (.b true) := by
  refine ans law11_StoreOnce.f ?_
  have hv := varsB_bd n
  have hN := store_New.a (varsB n)
  have eN : newV (varsB n) = .tu [.ag (cS (emptyS (varsB n))), .i .i64 0] := by
    unfold newV
    rw [if_neg (by omega)]
    rfl
  rw [eN] at hN
  have hml := made_len n l
  have hok : ∀ c ∈ madeC n l, okC (varsB n) c = true := made_ok n l
  have hC := law08_Made.a n hn l hb hl
  generalize madeC n l = M at *
  have hne := fun (l : List C) => coreL_ne (n := varsB n) (l := l) (by omega)
  have hg0 := Gd.empty (v := varsB n) (by omega) (by omega)
  have hV := law08_Vars.a n hn
  generalize varsB n = v at *
  obtain ⟨N, hN15, hNok, hNe⟩ : ∃ N : List C, N.length ≤ 15 ∧ (∀ c ∈ N, okC v c = true) ∧ N = (if 15 < M.length then M.take 15 else M) := by
    refine ⟨_, ?_, ?_, rfl⟩
    · split
      · rw [List.length_take]; omega
      · omega
    · split
      · exact fun c hc => hok c (List.mem_of_mem_take hc)
      · exact hok
  by_cases h15 : 15 < M.length
  all_goals
    first | rw [if_pos h15] at hNe | rw [if_neg h15] at hNe
    simp +contextual (disch := omega) [Nat.add_assoc, Int.add_assoc, if_pos, if_neg, -Int.not_lt, -Int.not_le, -Nat.not_lt, -Nat.not_le, -List.length_flatMap, law11_StoreOnce.c, ansK hV, ansK hN, ansK hC, h15, ← hNe]
    refine for_w (fun i e m x => ∃ s, Gd v i s ∧ e 5 = .b true ∧ e 6 = .p 9 0 ∧ e 7 = .i .i64 0 ∧ e 8 = .p 13 0 ∧ e 9 = sV cC N ∧ e 11 = .i .i64 i ∧ m 9 = some (.cells (cS s) false) ∧ m 13 = some (.cells (cS (emptyS v)) false) ∧ 23 ≤ x ∧ Bf m (e 10) cC 3 s.cl 14 x) N.length ?_ ?_ ?_
    · refine ⟨emptyS v, hg0, ?_⟩
      simp +contextual (disch := omega) [Nat.add_assoc, Int.add_assoc, if_pos, if_neg, -Int.not_lt, -Int.not_le, -Nat.not_lt, -Nat.not_le, -List.length_flatMap]
      exact Bf.nil
    · rintro i e m x hi ⟨s, hg, g5, g6, g7, g8, g9, g11, y9, y13, hx, g10⟩
      have hA : Ans ctx store_Add.n [.ag (cS s), .sl (cC N[i]) 1] (addV s [N[i]]) := store_Add.a s [N[i]] hg.few (by simp) (fun c hc => by rw [List.mem_singleton.1 hc]; exact Nat.le_trans (okC_six (hNok _ (List.getElem_mem hi))) (by omega))
      have h1r := one_right hv.1 (by omega) (hNok _ (List.getElem_mem hi))
      rw [hg.addV h1r (by simp; omega)] at hA
      have hgA := hg.add h1r (by simp; omega)
      generalize hB : e 10 = B at g10
      split at hA
      · rename_i hs
        have e1 : (addS s [N[i]]).cl = s.cl ++ [N[i]] := by unfold addS; rw [hg.vars, Int.toNat_natCast, if_pos hs]
        have hlen := hg.len
        generalize addS s [N[i]] = t at *
        simp +contextual (disch := omega) [Nat.add_assoc, Int.add_assoc, if_pos, if_neg, -Int.not_lt, -Int.not_le, -Nat.not_lt, -Nat.not_le, -List.length_flatMap, law11_StoreOnce.b1, g5, g6, g7, g8, g9, g11, hB, y9, y13, hi, ansK hA, -apV_ns]
        have hd : (cS s).drop 3 = [] := rfl
        have hw : ∀ (j : Nat), j ∈ wIds (.tu [.ag (cS t), sV cI [], .i .i64 0]) [x + 9] → ¬ j = x + 14 := fun j hj => by
          unfold wIds at hj
          split at hj
          · cases hj
          · have := List.mem_singleton.1 hj; omega
        rw [IfK_pos ⟨by omega, hw⟩]
        refine g10.ap [N[i]] (fun j h1 h2 => by simp +contextual (disch := omega) [Nat.add_assoc, Int.add_assoc, if_pos, if_neg, -Int.not_lt, -Int.not_le, -Nat.not_lt, -Nat.not_le, -List.length_flatMap]) (by omega) (by omega) (by simp) rfl (by simp; omega) ?_
        intro B' ws m2 z0 z1 z2 z3
        rw [← e1] at z1
        have q9 : m2 9 = some (.cells (cS t) false) := by rw [z2 9 (by omega)]; simp +contextual (disch := omega) [Nat.add_assoc, Int.add_assoc, if_pos, if_neg, -Int.not_lt, -Int.not_le, -Nat.not_lt, -Nat.not_le, -List.length_flatMap, hd, List.append_nil]
        have q13 : m2 13 = some (.cells (cS (emptyS v)) false) := by rw [z2 13 (by omega)]; simp +contextual (disch := omega) [Nat.add_assoc, Int.add_assoc, if_pos, if_neg, -Int.not_lt, -Int.not_le, -Nat.not_lt, -Nat.not_le, -List.length_flatMap, y13]
        simp +contextual (disch := omega) [Nat.add_assoc, Int.add_assoc, if_pos, if_neg, -Int.not_lt, -Int.not_le, -Nat.not_lt, -Nat.not_le, -List.length_flatMap, z0, g5, g6, g7, g8, g9, g11, z1.stor, z1.cells]
        exact ⟨t, hgA, q9, q13, z1.up (by omega) (fun _ _ _ => rfl)⟩
      · rename_i hs
        have e1 : addS s [N[i]] = s := by unfold addS; rw [hg.vars, Int.toNat_natCast, if_neg hs]
        rw [e1] at hA
        have hlost : lostC v (s.cl ++ [N[i]]) = true := by unfold lostC; simp at hs; rw [hs]; rfl
        have hcn := hne _ hlost
        have hln : intL (coreL v (s.cl ++ [N[i]])) ≠ [] := by unfold intL; simpa using hcn
        generalize intL (coreL v (s.cl ++ [N[i]])) = why at *
        have hwl : ¬ why.length = 0 := by simpa using hln
        simp +contextual (disch := omega) [Nat.add_assoc, Int.add_assoc, if_pos, if_neg, -Int.not_lt, -Int.not_le, -Nat.not_lt, -Nat.not_le, -List.length_flatMap, law11_StoreOnce.b1, g5, g6, g7, g8, g9, g11, hB, y9, y13, hi, ansK hA, -apV_ns, ansK hg.few.same, hwl]
        have hw : ∀ (j : Nat), j ∈ wIds (.tu [.ag (cS s), sV cI why, .i .i64 30]) [x + 9] → ¬ j = x + 14 := fun j hj => by
          unfold wIds at hj
          split at hj
          · cases hj
          · have := List.mem_singleton.1 hj; omega
        rw [IfK_pos ⟨by omega, hw⟩]
        exact ⟨s, hg.up (by omega), rfl, g10.up (by omega) (fun j h1 h2 => by simp +contextual (disch := omega) [Nat.add_assoc, Int.add_assoc, if_pos, if_neg, -Int.not_lt, -Int.not_le, -Nat.not_lt, -Nat.not_le, -List.length_flatMap])⟩
    · rintro e m x ⟨s, hg, g5, g6, g7, g8, g9, g11, y9, y13, hx, g10⟩
      have hz := g10.fz24
      have hlen := hg.len
      have hF : Ans ctx store_Add.n [.ag (cS (emptyS v)), sV cC s.cl] (addV (emptyS v) s.cl) := store_Add.a (emptyS v) s.cl hg0.few (by omega) (fun c hc => by have := hg.few.2.2.2 c hc; omega)
      have hv2 : addV (emptyS v) s.cl = .tu [.ag (cS s), sV cI [], .i .i64 0] := by
        rw [hg0.addV hg.cl (by omega)]
        have hs := hg.sol
        unfold addS
        simp only [emptyS, List.nil_append, Int.toNat_natCast, hs.1, if_true, hs.2]
        have := hg.vars
        cases s
        simp only at this ⊢
        rw [this]
      rw [hv2] at hF
      generalize hB : e 10 = B at g10 hz
      have hr : 9 ∉ refOf B := by
        rcases g10 with ⟨rfl, _⟩ | ⟨a, cs, rfl, _, _, h3, _⟩
        · simp [refOf]
        · simp [refOf]; omega
      have y9' : ∀ u, aft u m (refOf B) 9 = some (.cells (cS s) false) := fun u => by rw [aft_none _ _ _ _ hr, y9]
      simp +contextual (disch := omega) [Nat.add_assoc, Int.add_assoc, if_pos, if_neg, -Int.not_lt, -Int.not_le, -Nat.not_lt, -Nat.not_le, -List.length_flatMap, law11_StoreOnce.b1, g5, g6, g7, g8, g9, g11, hB, y9, y13, hz, ansK hF, ansK hg.few.same, y9']
end Pi
