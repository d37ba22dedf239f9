/- Contracts: stores (layer 11): what follows, in the document. -/
import Derived.Test.YtfdkpnckflmcaaaC11f
set_option linter.unusedSimpArgs false
set_option linter.unusedVariables false
namespace Pi
set_option maxHeartbeats 1000000 in
theorem ref11_Follows.a (s : St) (a : A) (b : List A) (hs : s.Few) (hb : b.length ≤ 1000000) : Ans ctx ref11_Follows.n [.ag (cS s), .ag (cA a), sV cA b] (followsV s a b) := by
  obtain ⟨vs, hvs⟩ : ∃ vs, vs = [V.ag (cS s), V.ag (cA a), sV cA b] := ⟨_, rfl⟩
  rw [← hvs]
  refine ans ref11_Follows.f ?_
  have hR := ref11_Right.a s hs.1
  obtain ⟨hok, z1, z2, z3⟩ := hs
  have hH : Ans ctx ref08_Right.n [.i .i64 s.vars, .sl (sV cA b :: cA a) 1] (.b (rightC s.vars [⟨b, a⟩])) := ref08_Right.a s.vars [⟨b, a⟩] (by simp) (by simp; omega)
  obtain ⟨u, hu⟩ : ∃ u, u = followsV s a b := ⟨_, rfl⟩
  have hu' := hu
  unfold followsV at hu'
  rw [← hu]
  cases c1 : rightS s with
  | false =>
    rw [c1] at hR
    rw [c1, if_pos (.inl rfl)] at hu'
    simp +contextual (disch := omega) [Nat.add_assoc, Int.add_assoc, if_pos, if_neg, -Int.not_lt, -Int.not_le, -Nat.not_lt, -Nat.not_le, -List.length_flatMap, hvs, ref11_Follows.c, ansK hR, hu']
  | true =>
    rw [c1] at hR
    cases c2 : rightC s.vars [⟨b, a⟩] with
    | false =>
      rw [c2] at hH
      rw [c2, if_pos (.inr rfl)] at hu'
      simp +contextual (disch := omega) [Nat.add_assoc, Int.add_assoc, if_pos, if_neg, -Int.not_lt, -Int.not_le, -Nat.not_lt, -Nat.not_le, -List.length_flatMap, hvs, ref11_Follows.c, ansK hR, ansK hH, hu']
    | true =>
      rw [c2] at hH
      rw [c1, c2, if_neg (by simp)] at hu'
      by_cases c3 : 60 < s.cl.length + b.length
      · rw [if_pos (.inl c3)] at hu'
        simp +contextual (disch := omega) [Nat.add_assoc, Int.add_assoc, if_pos, if_neg, -Int.not_lt, -Int.not_le, -Nat.not_lt, -Nat.not_le, -List.length_flatMap, hvs, ref11_Follows.c, ansK hR, ansK hH, c3, hu']
      · have hu1 : b.any greatA = true → u = .tu [.b false, .i .i64 2] := fun h => by rw [if_pos (.inr h)] at hu'; exact hu'
        have hu2 : b.any greatA = false → u = .tu [.b (!(solveC s.vars.toNat (s.cl ++ againstL a b)).2.1), .i .i64 0] := fun h => by rw [if_neg (by rw [h]; simp; omega)] at hu'; exact hu'
        clear hu' hu
        simp +contextual (disch := omega) [Nat.add_assoc, Int.add_assoc, if_pos, if_neg, -Int.not_lt, -Int.not_le, -Nat.not_lt, -Nat.not_le, -List.length_flatMap, hvs, ref11_Follows.c, ansK hR, ansK hH, c3]
        rw [CallX_op (by rfl)]
        refine openg_w rfl rfl (.inl rfl) ?_
        have hfo : ctx.frz ref11_own.n = false := rfl
        rw [hfo]
        show Pi.w ctx (envOf [.ag [.i .i64 s.vars, sV cC s.cl, sV cI s.md]]) _ _ _ _ _ _ _
        refine ref11_own.w (s := s) (V1 := sV cC s.cl) (V2 := sV cI s.md) (fs := s.cl.map fun c => sV cA c.frm) (A := fun _ => False) (.inl ⟨rfl, rfl⟩) (Fr.sv (fun _ => False) _ s.cl) (Rl.sV (fun _ => False) _ s.md) (fun j h => h.elim) (fun j h => by cases h) z1 z2 z3 ?_
        intro C1 C2 hs' m2 x2 hx2 hm2 hX2 hB2 _
        have k0 : m2 0 = some (.cells (cS s) false) := by rw [hm2 0 (by omega)]; simp +contextual (disch := omega) [Nat.add_assoc, Int.add_assoc, if_pos, if_neg, -Int.not_lt, -Int.not_le, -Nat.not_lt, -Nat.not_le, -List.length_flatMap]
        have k1 : m2 1 = some (.cells (cA a) false) := by rw [hm2 1 (by omega)]; simp +contextual (disch := omega) [Nat.add_assoc, Int.add_assoc, if_pos, if_neg, -Int.not_lt, -Int.not_le, -Nat.not_lt, -Nat.not_le, -List.length_flatMap]
        simp +contextual (disch := omega) [Nat.add_assoc, Int.add_assoc, if_pos, if_neg, -Int.not_lt, -Int.not_le, -Nat.not_lt, -Nat.not_le, -List.length_flatMap]
        clear hm2
        refine for_w (fun i e m x => ∃ B gs, e 3 = .p 0 0 ∧ e 4 = .p 1 0 ∧ e 9 = B ∧ e 2 = sV cA b ∧ e 10 = .i .i64 i ∧ m 0 = some (.cells (cS s) false) ∧ m 1 = some (.cells (cA a) false) ∧ 29 ≤ x ∧ (b.take i).any greatA = false ∧ Xc m B (s.cl ++ againstL a (b.take i)) gs 26 x) b.length ?_ ?_ ?_
        · refine ⟨C1, hs', ?_⟩
          simp +contextual (disch := omega) [Nat.add_assoc, Int.add_assoc, if_pos, if_neg, -Int.not_lt, -Int.not_le, -Nat.not_lt, -Nat.not_le, -List.length_flatMap, k0, k1, againstL]
          exact ⟨by omega, hX2.up (Nat.le_refl _) (by omega) (fun _ _ _ => rfl)⟩
        · rintro i e m x hi ⟨B, gs, g3, g4, g9, g2, g10, y0, y1, hx, hg, hX⟩
          have hok2 : -9223372036854775808 ≤ b[i].off := by
            obtain ⟨r1, r2, r3, r4⟩ := right_ok c2
            have h := r4 ⟨b, a⟩ (List.mem_singleton.2 rfl)
            simp only [okC, Bool.and_eq_true, List.all_eq_true] at h
            have := h.2 b[i] (by simp)
            simp [okA] at this
            omega
          by_cases hoff : 1000 ≤ b[i].off
          · have hy := hu1 (List.any_eq_true.2 ⟨b[i], List.getElem_mem hi, by simp [greatA, hoff]⟩)
            simp +contextual (disch := omega) [Nat.add_assoc, Int.add_assoc, if_pos, if_neg, -Int.not_lt, -Int.not_le, -Nat.not_lt, -Nat.not_le, -List.length_flatMap, ref11_Follows.b1, g3, g4, g9, g2, g10, y0, y1, hi, hoff, hy]
          · have hoff' : b[i].off < 1000 := by omega
            simp +contextual (disch := omega) [Nat.add_assoc, Int.add_assoc, if_pos, if_neg, -Int.not_lt, -Int.not_le, -Nat.not_lt, -Nat.not_le, -List.length_flatMap, ref11_Follows.b1, g3, g4, g9, g2, g10, y0, y1, hi, hoff, -apV_ns]
            have hal := against_len a (b.take i)
            have htl : (b.take i).length = i := by rw [List.length_take]; omega
            have hbl : (s.cl ++ againstL a (b.take i)).length ≤ 60 := by rw [List.length_append, hal, htl]; omega
            have ht : againstL a (b.take (i + 1)) = againstL a (b.take i) ++ [⟨[a], ⟨b[i].var, b[i].off + 1⟩⟩] := by
              unfold againstL
              rw [List.take_succ_eq_append_getElem hi, List.map_append]; rfl
            have hg' : ∀ x ∈ b.take (i + 1), greatA x = false := by
              rw [List.take_succ_eq_append_getElem hi]
              intro y hy
              rcases List.mem_append.1 hy with hy | hy
              · rw [List.any_eq_false] at hg; simpa using hg y hy
              · rw [List.mem_singleton.1 hy]; simp [greatA]; omega
            refine hX.ap (lo := 26) (dl := [⟨[a], ⟨b[i].var, b[i].off + 1⟩⟩]) (gs := [.ms (x + 12) 0 1 2]) (fun j h1 h2 => by rw [Sto.sne _ _ _ _ (by omega), Sto.sne _ _ _ _ (by omega)]) (by omega) (by omega) (by omega) rfl rfl ?_ (by simp; omega) ?_
            · refine ⟨(Rl.Bf (Bf.mem (f := cA) (k := 2) (lo := x + 12) (x := x + 13) (l := [a]) (cs := cA a) (by simp +contextual (disch := omega) [Nat.add_assoc, Int.add_assoc, if_pos, if_neg, -Int.not_lt, -Int.not_le, -Nat.not_lt, -Nat.not_le, -List.length_flatMap]) (by simp) rfl (by omega) (by omega))).mono (fun j hj => ⟨by omega, by omega, by omega⟩), trivial⟩
            · intro B' ws m2 p1 p2 p3 p4
              have q0 : m2 0 = some (.cells (cS s) false) := by rw [p3 0 (by omega)]; simp +contextual (disch := omega) [Nat.add_assoc, Int.add_assoc, if_pos, if_neg, -Int.not_lt, -Int.not_le, -Nat.not_lt, -Nat.not_le, -List.length_flatMap, y0]
              have q1 : m2 1 = some (.cells (cA a) false) := by rw [p3 1 (by omega)]; simp +contextual (disch := omega) [Nat.add_assoc, Int.add_assoc, if_pos, if_neg, -Int.not_lt, -Int.not_le, -Nat.not_lt, -Nat.not_le, -List.length_flatMap, y1]
              simp +contextual (disch := omega) [Nat.add_assoc, Int.add_assoc, if_pos, if_neg, -Int.not_lt, -Int.not_le, -Nat.not_lt, -Nat.not_le, -List.length_flatMap, p1, g3, g4, g2, g10, q0, q1, p2.rc.stor, p2.rc.cells, hg']
              refine ⟨gs ++ [.ms (x + 12) 0 1 2], ?_⟩
              rw [ht, ← List.append_assoc]
              exact p2.up (Nat.le_refl _) (by omega) (fun _ _ _ => rfl)
        · rintro e m x ⟨B, gs, g3, g4, g9, g2, g10, y0, y1, hx, hg, hX⟩
          rw [List.take_length] at hg hX
          have hal := against_len a b
          have hRc : rightC s.vars s.cl = true := by
            unfold rightS at c1
            simp only [Bool.and_eq_true] at c1
            exact c1.1.1
          have hRa := right_app hRc (against_right c2 hg (by omega)) (by omega)
          have hS := ref09_Solve.a s.vars (s.cl ++ againstL a b) (by simp; omega) (fun c hc => by
            rcases List.mem_append.1 hc with hc | hc
            · exact hok.2 c hc
            · rw [against_frm c hc]; omega)
          rw [solveV, if_pos hRa] at hS
          have hy := hu2 hg
          obtain ⟨ids, hz, hid⟩ := hX.rc.fz24
          simp +contextual (disch := omega) [Nat.add_assoc, Int.add_assoc, if_pos, if_neg, -Int.not_lt, -Int.not_le, -Nat.not_lt, -Nat.not_le, -List.length_flatMap, ref11_Follows.b1, g3, g4, g9, g2, g10, y0, y1, hz, ansK hS, hy]
end Pi
