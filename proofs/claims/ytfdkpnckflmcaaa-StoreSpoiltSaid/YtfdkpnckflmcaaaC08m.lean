/- Laws of layer 8: clauses by numbers, in memory that their caller may write to. -/
import Derived.Test.YtfdkpnckflmcaaaC08i
import Derived.Test.YtfdkpnckflmcaaaCRl
set_option linter.unusedSimpArgs false
set_option linter.unusedVariables false
namespace Pi
set_option maxHeartbeats 1000000 in
theorem law08_Made.w {m0 : Sto} {x0 : Nat} {K : CR → Sto → Nat → Prop} (n : Nat) (hn : n < 256) (l : List Nat) (hb : Byt l) (hl : l.length ≤ 9223372036854775807)
    (hK : ∀ B gs m' x', x0 ≤ x' → (∀ j, j < x0 → m' j = m0 j) → Xc m' B (madeC n l) gs x0 x' → K (.ret B) m' x') :
    w ctx (envOf [.i .u8 n, sV cU l]) m0 x0 [] none none (RetG ctx law08_Made.c.rs K) law08_Made.c.code := by
  have hv : 1 ≤ varsB n ∧ varsB n ≤ 8 := by unfold varsB; omega
  simp +contextual (disch := omega) [Nat.add_assoc, Int.add_assoc, if_pos, if_neg, -Int.not_lt, -Int.not_le, -Nat.not_lt, -Nat.not_le, -List.length_flatMap, law08_Made.c, ansK (law08_Vars.a n hn)]
  generalize hM : madeC n l = M at hK
  refine while_w (fun k e m x => ∃ (i : Nat) (o : List C), k = l.length - i ∧ e 1 = sV cU l ∧ e 5 = .i .i64 (varsB n : Nat) ∧ e 7 = .i .i64 i ∧ (∃ gs, Xc m (e 6) o gs x0 x) ∧ x0 ≤ x ∧ (∀ j, j < x0 → m j = m0 j) ∧ o.length ≤ 30 ∧ i ≤ l.length ∧ o ++ madeB (varsB n) (30 - o.length) (l.drop i) = M) l.length ?_ ?_
  · refine ⟨0, [], ?_⟩
    simp +contextual (disch := omega) [Nat.add_assoc, Int.add_assoc, if_pos, if_neg, -Int.not_lt, -Int.not_le, -Nat.not_lt, -Nat.not_le, -List.length_flatMap]
    exact ⟨⟨_, Xc.nil⟩, by simpa [madeC] using hM⟩
  · rintro k e m x ⟨i, o, hk, g1, g2, g3, ⟨gs, g4⟩, gx, gm, g5, g6, g7⟩
    by_cases hi : i < l.length
    · by_cases ho : o.length < 30
      · generalize hr : l.drop i = r at g7
        have hrl : r.length = l.length - i := by rw [← hr]; simp
        have hr0 : r ≠ [] := by intro h; rw [h] at hrl; simp at hrl; omega
        have hrg : ∀ j (h : i + j < l.length), l[i + j] = r[j]'(by omega) := by intro j h; simp [← hr]
        have hbr : Byt r := hr ▸ hb.drop i
        have e0 : l[i] = r[0]'(by omega) := hrg 0 hi
        have em : manyB r = 1 + l[i] % 3 := by
          unfold manyB
          rw [e0]
          simp [List.getD_eq_getElem?_getD, (by omega : 0 < r.length)]
        have hm3 : manyB r ≤ 3 := by omega
        have hbi := hb.at hi
        obtain ⟨d, hd⟩ : ∃ d, 30 - o.length = d + 1 := ⟨29 - o.length, by omega⟩
        rw [hd, madeB, if_neg hr0] at g7
        have em' : ((1 : Int) + (l[i] : Int) % 3) = (manyB r : Nat) := by rw [em]; simp
        simp +contextual (disch := omega) [Nat.add_assoc, Int.add_assoc, if_pos, if_neg, -Int.not_lt, -Int.not_le, -Nat.not_lt, -Nat.not_le, -List.length_flatMap, law08_Made.b2, g1, g2, g3, g4.rc.len, hi, Int.tmod_eq_emod_of_nonneg, em']
        generalize hN : min (manyB r + 1) r.length = N
        refine for_w (fun q e m' x' => e 1 = sV cU l ∧ e 5 = .i .i64 (varsB n : Nat) ∧ e 8 = .i .i64 (manyB r : Nat) ∧ e 9 = .p (x + 17) 0 ∧ e 10 = .i .i64 q ∧ e 7 = .i .i64 (i + q : Nat) ∧ Xc m' (e 6) o gs x0 x ∧ (∀ j, j < x0 → m' j = m0 j) ∧ x + 18 ≤ x' ∧
          ∃ F T, m' (x + 17) = some (.cells (F :: cA T) false) ∧ Bf m' F cA 2 ((r.take (min q (manyB r))).map (atomB (varsB n))) (x + 18) x' ∧ T = (if q ≤ manyB r then ⟨0, 0⟩ else (r[manyB r]?.map (atomB (varsB n))).getD ⟨0, 0⟩)) N ?_ ?_ ?_
        · simp +contextual (disch := omega) [Nat.add_assoc, Int.add_assoc, if_pos, if_neg, -Int.not_lt, -Int.not_le, -Nat.not_lt, -Nat.not_le, -List.length_flatMap, g1, g2, g3]
          refine ⟨g4.up (Nat.le_refl _) (Nat.le_refl _) (fun j h1 h2 => by simp +contextual (disch := omega) [Nat.add_assoc, Int.add_assoc, if_pos, if_neg, -Int.not_lt, -Int.not_le, -Nat.not_lt, -Nat.not_le, -List.length_flatMap]), fun j hj => by simp +contextual (disch := omega) [Nat.add_assoc, Int.add_assoc, if_pos, if_neg, -Int.not_lt, -Int.not_le, -Nat.not_lt, -Nat.not_le, -List.length_flatMap, gm], V.ns, ⟨rfl, rfl⟩, Bf.nil⟩
        · rintro q e m' x' hq ⟨q1, q2, q3, q4, q5, q6, q7, qm, q8, F, T, q9, q10, q11⟩
          have hiq : i + q < l.length := by omega
          obtain ⟨P, hP⟩ : ∃ P, P = i + q := ⟨_, rfl⟩
          have hrq := hrg q hiq
          have hbq := hb.at hiq
          simp only [← hP] at hiq hrq hbq q6
          have hqm : q ≤ manyB r := by omega
          rw [if_pos hqm] at q11
          subst q11
          have hat : atomB (varsB n) r[q] = ⟨(l[P] : Int) / 4 % (varsB n : Nat), (l[P] : Int) / 32 % 3⟩ := by unfold atomB; rw [← hrq]; simp
          have ev : ((varsB n : Nat) : Int) ≠ 0 := by omega
          by_cases hlt : q < manyB r
          · have et : (r.take (min (q + 1) (manyB r))).map (atomB (varsB n)) = (r.take (min q (manyB r))).map (atomB (varsB n)) ++ [atomB (varsB n) r[q]] := by
              rw [Nat.min_eq_left (by omega), Nat.min_eq_left (by omega), List.take_succ_eq_append_getElem (by omega), List.map_append]; rfl
            simp +contextual (disch := omega) [Nat.add_assoc, Int.add_assoc, if_pos, if_neg, -Int.not_lt, -Int.not_le, -Nat.not_lt, -Nat.not_le, -List.length_flatMap, law08_Made.b1, q1, q2, q3, q4, q5, q6, q9, hiq, Int.tmod_eq_emod_of_nonneg, Int.tdiv_eq_ediv_of_nonneg, ev]
            refine q10.ap [atomB (varsB n) r[q]] (by simp +contextual (disch := omega) [Nat.add_assoc, Int.add_assoc, if_pos, if_neg, -Int.not_lt, -Int.not_le, -Nat.not_lt, -Nat.not_le, -List.length_flatMap]) (by omega) (by omega) (by simp [hat, cA]) rfl (by simp; omega) ?_
            intro F' ws m2 p0 p1 p2 p3
            simp +contextual (disch := omega) [Nat.add_assoc, Int.add_assoc, if_pos, if_neg, -Int.not_lt, -Int.not_le, -Nat.not_lt, -Nat.not_le, -List.length_flatMap, p0, p2, q1, q2, q3, q4, q5, q6, q9, p1.stor, p1.cells]
            refine ⟨by omega, q7.up (Nat.le_refl _) (Nat.le_refl _) (fun j _ hj => ?_), fun j hj => ?_, by omega, ?_⟩
            · have := p2 j (by omega)
              simp +contextual (disch := omega) [Nat.add_assoc, Int.add_assoc, if_pos, if_neg, -Int.not_lt, -Int.not_le, -Nat.not_lt, -Nat.not_le, -List.length_flatMap, this]
            · have := p2 j (by omega)
              simp +contextual (disch := omega) [Nat.add_assoc, Int.add_assoc, if_pos, if_neg, -Int.not_lt, -Int.not_le, -Nat.not_lt, -Nat.not_le, -List.length_flatMap, this, qm]
            · have := (p1.up (x' := x' + 43) (m' := m2.set (x + 17) (some (.cells (F' :: cA ⟨0, 0⟩) false))) (by omega) (by simp +contextual (disch := omega) [Nat.add_assoc, Int.add_assoc, if_pos, if_neg, -Int.not_lt, -Int.not_le, -Nat.not_lt, -Nat.not_le, -List.length_flatMap])).to et.symm (Nat.le_refl _)
              rw [Nat.min_eq_left (by omega)] at this
              simpa using this
          · have hqe : q = manyB r := by omega
            simp +contextual (disch := omega) [Nat.add_assoc, Int.add_assoc, if_pos, if_neg, -Int.not_lt, -Int.not_le, -Nat.not_lt, -Nat.not_le, -List.length_flatMap, law08_Made.b1, q1, q2, q3, q4, q5, q6, q9, hiq, Int.tmod_eq_emod_of_nonneg, Int.tdiv_eq_ediv_of_nonneg, ev]
            subst hqe
            have hrm : (r[manyB r]?.map (atomB (varsB n))).getD ⟨0, 0⟩ = atomB (varsB n) r[manyB r] := by rw [List.getElem?_eq_getElem (by omega)]; rfl
            have ec : [V.i Go.IntKind.i64 (↑l[P] / 4 % ↑(varsB n)), V.i Go.IntKind.i64 (↑l[P] / 32 % 3)] = cA (atomB (varsB n) r[manyB r]) := by rw [hat]; rfl
            refine ⟨by omega, q7.up (Nat.le_refl _) (Nat.le_refl _) (fun j h1 h2 => by simp +contextual (disch := omega) [Nat.add_assoc, Int.add_assoc, if_pos, if_neg, -Int.not_lt, -Int.not_le, -Nat.not_lt, -Nat.not_le, -List.length_flatMap]), fun j hj => by simp +contextual (disch := omega) [Nat.add_assoc, Int.add_assoc, if_pos, if_neg, -Int.not_lt, -Int.not_le, -Nat.not_lt, -Nat.not_le, -List.length_flatMap, qm], by omega, F, ⟨rfl, ?_⟩, ?_⟩
            · exact ec
            · have := q10.up (x' := x' + 39) (m' := m') (by omega) (fun _ _ _ => rfl)
              have e6 : (r.take (min (manyB r) (manyB r))).map (atomB (varsB n)) = (r.map (atomB (varsB n))).take (manyB r) := by rw [Nat.min_self, List.map_take]
              exact (q10.up (x' := x' + 39) (by omega) (by simp +contextual (disch := omega) [Nat.add_assoc, Int.add_assoc, if_pos, if_neg, -Int.not_lt, -Int.not_le, -Nat.not_lt, -Nat.not_le, -List.length_flatMap])).to e6 (Nat.le_refl _)
        · rintro e m' x' ⟨q1, q2, q3, q4, q5, q6, q7, qm, q8, F, T, q9, q10, q11⟩
          have hcl : (⟨(r.take (min N (manyB r))).map (atomB (varsB n)), T⟩ : C) = clauseB (varsB n) r := by
            rw [clauseB_cut hN.symm, q11]
            congr 1
            split
            · rw [List.getElem?_eq_none (by omega)]; rfl
            · rfl
          have hfin : ∀ (B' : V) (m2 : Sto) (x2 : Nat), (∃ gs, Xc m2 B' (o ++ [clauseB (varsB n) r]) gs x0 x2) → ∃ j, j < k ∧ ∃ i' o', j = l.length - i' ∧ i + N = i' ∧ (∃ gs, Xc m2 B' o' gs x0 x2) ∧ o'.length ≤ 30 ∧ i' ≤ l.length ∧ o' ++ madeB (varsB n) (30 - o'.length) (l.drop i') = M := by
            intro B' m2 x2 h
            refine ⟨l.length - (i + N), by omega, i + N, _, rfl, rfl, h, by simp; omega, by omega, ?_⟩
            have e1 : 30 - (o ++ [clauseB (varsB n) r]).length = d := by simp; omega
            have e2 : l.drop (i + N) = r.drop (manyB r + 1) := by
              rw [← List.drop_drop, hr]
              by_cases h : manyB r + 1 ≤ r.length
              · rw [← hN, Nat.min_eq_left h]
              · rw [List.drop_of_length_le (by omega), List.drop_of_length_le (by omega)]
            rw [e1, e2, List.append_assoc]
            exact g7
          obtain ⟨P, hP⟩ : ∃ P, P = i + N := ⟨_, rfl⟩
          rw [← hP] at q6 hfin
          by_cases hN2 : N ≤ manyB r
          all_goals (simp +contextual (disch := omega) [Nat.add_assoc, Int.add_assoc, if_pos, if_neg, -Int.not_lt, -Int.not_le, -Nat.not_lt, -Nat.not_le, -List.length_flatMap, law08_Made.b1, q1, q2, q3, q4, q5, q6, q9])
          all_goals
            refine q7.ap (lo := x0) (dl := [clauseB (varsB n) r]) (gs := [F]) (fun j h1 h2 => by simp +contextual (disch := omega) [Nat.add_assoc, Int.add_assoc, if_pos, if_neg, -Int.not_lt, -Int.not_le, -Nat.not_lt, -Nat.not_le, -List.length_flatMap]) (by omega) (by omega) (by omega) (by rw [← hcl]; rfl) rfl ?_ (by simp; omega) ?_
            · refine ⟨?_, trivial⟩
              rw [← hcl]
              exact (Rl.Bf (q10.up (Nat.le_refl _) (fun j h1 h2 => by simp +contextual (disch := omega) [Nat.add_assoc, Int.add_assoc, if_pos, if_neg, -Int.not_lt, -Int.not_le, -Nat.not_lt, -Nat.not_le, -List.length_flatMap]))).mono (fun j hj => ⟨by omega, by omega, by omega⟩)
            · intro B' ws m2 p0 p1 p2 p3
              have pm : ∀ j, j < x0 → m2 j = m0 j := fun j hj => by
                have h1 := p2 j (by omega)
                have h2 := qm j hj
                simp +contextual (disch := omega) [Nat.add_assoc, Int.add_assoc, if_pos, if_neg, -Int.not_lt, -Int.not_le, -Nat.not_lt, -Nat.not_le, -List.length_flatMap, h1, h2]
              simp +contextual (disch := omega) [Nat.add_assoc, Int.add_assoc, if_pos, if_neg, -Int.not_lt, -Int.not_le, -Nat.not_lt, -Nat.not_le, -List.length_flatMap, p0, q1, q2, q6, p1.rc.stor, p1.rc.cells]
              obtain ⟨j, hj, i', o', h1, h2, h3, h4⟩ := hfin B' m2 _ ⟨_, p1.up (Nat.le_refl _) (Nat.le_add_right _ 1) (fun _ _ _ => rfl)⟩
              obtain ⟨gs', h3⟩ := h3
              exact ⟨j, hj, i', h1, by omega, o', ⟨gs', h3.up (Nat.le_refl _) (by omega) (fun _ _ _ => rfl)⟩, by omega, pm, h4⟩
      · have e1 : 30 - o.length = 0 := by omega
        rw [e1, madeB, List.append_nil] at g7
        simp +contextual (disch := omega) [Nat.add_assoc, Int.add_assoc, if_pos, if_neg, -Int.not_lt, -Int.not_le, -Nat.not_lt, -Nat.not_le, -List.length_flatMap, law08_Made.b2, g1, g2, g3, g4.rc.len, hi]
        rw [g7] at g4
        exact hK _ _ _ _ (by omega) gm (g4.up (Nat.le_refl _) (by omega) (fun _ _ _ => rfl))
    · have e1 : l.drop i = [] := List.drop_of_length_le (by omega)
      have e2 : madeB (varsB n) (30 - o.length) [] = [] := by unfold madeB; split <;> simp
      rw [e1, e2, List.append_nil] at g7
      simp +contextual (disch := omega) [Nat.add_assoc, Int.add_assoc, if_pos, if_neg, -Int.not_lt, -Int.not_le, -Nat.not_lt, -Nat.not_le, -List.length_flatMap, law08_Made.b2, g1, g2, g3, g4.rc.len, hi]
      rw [g7] at g4
      exact hK _ _ _ _ (by omega) gm (g4.up (Nat.le_refl _) (by omega) (fun _ _ _ => rfl))
end Pi
