/- Laws of layer 8: clauses and models by numbers. -/
import Derived.Test.YtfdkpnckflmcaaaC08h
set_option linter.unusedSimpArgs false
set_option linter.unusedVariables false
namespace Pi
theorem tmod_nat (a b : Nat) : (a : Int).tmod b = ((a % b : Nat) : Int) := by rw [Int.tmod_eq_emod_of_nonneg (by omega)]; rfl
theorem tdiv_nat (a b : Nat) : (a : Int).tdiv b = ((a / b : Nat) : Int) := by rw [Int.tdiv_eq_ediv_of_nonneg (by omega)]; rfl
theorem law08_Vars.a (n : Nat) (hn : n < 256) : Ans ctx law08_Vars.n [.i .u8 n] (.i .i64 (varsB n : Nat)) := by
  refine ans law08_Vars.f ?_
  simp +contextual (disch := omega) [Nat.add_assoc, Int.add_assoc, if_pos, if_neg, -Int.not_lt, -Int.not_le, -Nat.not_lt, -Nat.not_le, -List.length_flatMap, law08_Vars.c, varsB, Int.tmod_eq_emod_of_nonneg]
def modelI (l : List Nat) (vars i : Nat) : List Int := (List.range vars).map fun j => if j < i then ((l[j]?.getD 0 % 12 : Nat) : Int) else 0
theorem modelI_s {l : List Nat} {vars i : Nat} (h : i < l.length) (hv : i < vars) : modelI l vars (i + 1) = (modelI l vars i).set i ((l[i] % 12 : Nat) : Int) := by
  apply List.ext_getElem
  · simp [modelI]
  · intro j h1 h2
    simp only [modelI, List.getElem_set, List.getElem_map, List.getElem_range]
    by_cases hj : i = j
    · subst hj; simp [h]
    · rw [if_neg hj]
      by_cases hlt : j < i
      · rw [if_pos hlt, if_pos (by omega)]
      · rw [if_neg hlt, if_neg (by omega)]
theorem modelI_e (l : List Nat) (n : Nat) : modelI l (varsB n) (min l.length (varsB n)) = modelB n l := by
  unfold modelI modelB
  apply List.map_congr_left
  intro j hj
  have := List.mem_range.1 hj
  split
  · rfl
  · rw [List.getElem?_eq_none (by omega)]; rfl
theorem law08_Model.a (n : Nat) (hn : n < 256) (l : List Nat) (hb : Byt l) (hl : l.length ≤ 9223372036854775807) : Ans ctx law08_Model.n [.i .u8 n, sV cU l] (sV cI (modelB n l)) := by
  refine ans law08_Model.f ?_
  have hv : 1 ≤ varsB n ∧ varsB n ≤ 8 := by unfold varsB; omega
  simp +contextual (disch := omega) [Nat.add_assoc, Int.add_assoc, if_pos, if_neg, -Int.not_lt, -Int.not_le, -Nat.not_lt, -Nat.not_le, -List.length_flatMap, law08_Model.c, ansK (law08_Vars.a n hn)]
  refine for_w (fun i e m x => e 1 = sV cU l ∧ e 5 = .ms 2 0 (varsB n) 1 ∧ e 6 = .i .i64 i ∧ 3 ≤ x ∧ m 2 = some (.cells ((modelI l (varsB n) i).flatMap cI) false)) (min l.length (varsB n)) ?_ ?_ ?_
  · have e0 : (modelI l (varsB n) 0).flatMap cI = zeros [V.i .i64 0] (varsB n) := by
      generalize varsB n = v
      unfold modelI
      simp only [Nat.not_lt_zero, if_false]
      induction v with
      | zero => rfl
      | succ v ih => rw [List.range_succ_eq_map, List.map_cons, List.flatMap_cons, List.map_map, zeros, ← ih]; rfl
    simp +contextual (disch := omega) [Nat.add_assoc, Int.add_assoc, if_pos, if_neg, -Int.not_lt, -Int.not_le, -Nat.not_lt, -Nat.not_le, -List.length_flatMap, e0]
  · rintro i e m x hi ⟨g1, g2, g3, g4, g5⟩
    have h1 : i < l.length := by omega
    have h2 : i < varsB n := by omega
    have e1 := modelI_s h1 h2
    have hbi := hb.at h1
    have hlen : (modelI l (varsB n) i).length = varsB n := by simp [modelI]
    have h12 : (l[i] : Int) % 12 = ((l[i] % 12 : Nat) : Int) := rfl
    simp +contextual (disch := omega) [Nat.add_assoc, Int.add_assoc, if_pos, if_neg, -Int.not_lt, -Int.not_le, -Nat.not_lt, -Nat.not_le, -List.length_flatMap, law08_Model.b1, g1, g2, g3, g5, h1, h2, Int.tmod_eq_emod_of_nonneg, hlen]
    rw [flatI_set (by omega), e1, h12]
  · rintro e m x ⟨g1, g2, g3, g4, g5⟩
    rw [modelI_e] at g5
    have hB : Bf m (.ms 2 0 (varsB n) 1) cI 1 (modelB n l) 0 x := .mem g5 rfl (modelB_len n l).symm (by omega) (by omega)
    have hz := hB.fz24
    have hln := hB.len
    rw [modelB_len] at hln
    generalize V.ms 2 0 (varsB n) 1 = BB at g2 hz hln
    by_cases h : l.length < varsB n
    · have e3 : min l.length (varsB n) = l.length := by omega
      rw [e3] at g3
      simp +contextual (disch := omega) [Nat.add_assoc, Int.add_assoc, if_pos, if_neg, -Int.not_lt, -Int.not_le, -Nat.not_lt, -Nat.not_le, -List.length_flatMap, law08_Model.b1, g1, g2, g3, hz, hln]
    · have e3 : min l.length (varsB n) = varsB n := by omega
      rw [e3] at g3
      by_cases h4 : varsB n < l.length
      · simp +contextual (disch := omega) [Nat.add_assoc, Int.add_assoc, if_pos, if_neg, -Int.not_lt, -Int.not_le, -Nat.not_lt, -Nat.not_le, -List.length_flatMap, law08_Model.b1, g1, g2, g3, hz, h4, hln]
      · simp +contextual (disch := omega) [Nat.add_assoc, Int.add_assoc, if_pos, if_neg, -Int.not_lt, -Int.not_le, -Nat.not_lt, -Nat.not_le, -List.length_flatMap, law08_Model.b1, g1, g2, g3, hz, h4, hln]
theorem madeB_len (vars k : Nat) : ∀ l, (madeB vars k l).length ≤ k := by
  induction k with
  | zero => intro l; simp [madeB]
  | succ k ih =>
    intro l
    unfold madeB
    split
    · simp
    · have := ih (l.drop (manyB l + 1)); simp; omega
theorem clauseB_cut {vars : Nat} {r : List Nat} {n : Nat} (hn : n = min (manyB r + 1) r.length) : clauseB vars r = ⟨(r.take (min n (manyB r))).map (atomB vars), (r[manyB r]?.map (atomB vars)).getD ⟨0, 0⟩⟩ := by
  unfold clauseB
  congr 1
  by_cases h : r.length ≤ manyB r
  · rw [List.take_of_length_le h, List.take_of_length_le (by omega)]
  · congr 2
    omega
theorem law08_Made.a (n : Nat) (hn : n < 256) (l : List Nat) (hb : Byt l) (hl : l.length ≤ 9223372036854775807) : Ans ctx law08_Made.n [.i .u8 n, sV cU l] (sV cC (madeC n l)) := by
  refine ans law08_Made.f ?_
  have hv : 1 ≤ varsB n ∧ varsB n ≤ 8 := by unfold varsB; omega
  simp +contextual (disch := omega) [Nat.add_assoc, Int.add_assoc, if_pos, if_neg, -Int.not_lt, -Int.not_le, -Nat.not_lt, -Nat.not_le, -List.length_flatMap, law08_Made.c, ansK (law08_Vars.a n hn)]
  generalize hM : madeC n l = M
  refine while_w (fun k e m x => ∃ (i : Nat) (o : List C), k = l.length - i ∧ e 1 = sV cU l ∧ e 5 = .i .i64 (varsB n : Nat) ∧ e 7 = .i .i64 i ∧ Bn m (e 6) cC 3 o 0 x 1 ∧ o.length ≤ 30 ∧ i ≤ l.length ∧ o ++ madeB (varsB n) (30 - o.length) (l.drop i) = M) l.length ?_ ?_
  · refine ⟨0, [], ?_⟩
    simp +contextual (disch := omega) [Nat.add_assoc, Int.add_assoc, if_pos, if_neg, -Int.not_lt, -Int.not_le, -Nat.not_lt, -Nat.not_le, -List.length_flatMap, Bn.nil]
    simpa [madeC] using hM
  · rintro k e m x ⟨i, o, hk, g1, g2, g3, g4, g5, g6, g7⟩
    by_cases hi : i < l.length
    · by_cases ho : o.length < 30
      · generalize hr : l.drop i = r at g7
        have hrl : r.length = l.length - i := by rw [← hr]; simp
        have hr0 : r ≠ [] := by intro h; rw [h] at hrl; simp at hrl; omega
        have hrg : ∀ j (h : i + j < l.length), l[i + j] = r[j]'(by omega) := by intro j h; simp [← hr]
        have hbr : Byt r := hr ▸ hb.drop i
        have e0 : l[i] = r[0]'(by omega) := hrg 0 hi
        have em : manyB r = 1 + l[i] % 3 := by
          unfold manyB
          rw [e0]
          simp [List.getD_eq_getElem?_getD, (by omega : 0 < r.length)]
        have hm3 : manyB r ≤ 3 := by omega
        have hbi := hb.at hi
        obtain ⟨d, hd⟩ : ∃ d, 30 - o.length = d + 1 := ⟨29 - o.length, by omega⟩
        rw [hd, madeB, if_neg hr0] at g7
        have em' : ((1 : Int) + (l[i] : Int) % 3) = (manyB r : Nat) := by rw [em]; simp
        simp +contextual (disch := omega) [Nat.add_assoc, Int.add_assoc, if_pos, if_neg, -Int.not_lt, -Int.not_le, -Nat.not_lt, -Nat.not_le, -List.length_flatMap, law08_Made.b2, g1, g2, g3, g4.len, hi, Int.tmod_eq_emod_of_nonneg, em']
        generalize hN : min (manyB r + 1) r.length = N
        refine for_w (fun q e m' x' => e 1 = sV cU l ∧ e 5 = .i .i64 (varsB n : Nat) ∧ e 8 = .i .i64 (manyB r : Nat) ∧ e 9 = .p (x + 17) 0 ∧ e 10 = .i .i64 q ∧ e 7 = .i .i64 (i + q : Nat) ∧ Bn m' (e 6) cC 3 o 0 x 1 ∧ x + 18 ≤ x' ∧
          ∃ F T, m' (x + 17) = some (.cells (F :: cA T) false) ∧ Bf m' F cA 2 ((r.take (min q (manyB r))).map (atomB (varsB n))) (x + 18) x' ∧ T = (if q ≤ manyB r then ⟨0, 0⟩ else (r[manyB r]?.map (atomB (varsB n))).getD ⟨0, 0⟩)) N ?_ ?_ ?_
        · simp +contextual (disch := omega) [Nat.add_assoc, Int.add_assoc, if_pos, if_neg, -Int.not_lt, -Int.not_le, -Nat.not_lt, -Nat.not_le, -List.length_flatMap, g1, g2, g3]
          refine ⟨g4.up (by omega) (by simp +contextual (disch := omega) [Nat.add_assoc, Int.add_assoc, if_pos, if_neg, -Int.not_lt, -Int.not_le, -Nat.not_lt, -Nat.not_le, -List.length_flatMap]), V.ns, ⟨rfl, rfl⟩, Bf.nil⟩
        · rintro q e m' x' hq ⟨q1, q2, q3, q4, q5, q6, q7, q8, F, T, q9, q10, q11⟩
          have hiq : i + q < l.length := by omega
          obtain ⟨P, hP⟩ : ∃ P, P = i + q := ⟨_, rfl⟩
          have hrq := hrg q hiq
          have hbq := hb.at hiq
          simp only [← hP] at hiq hrq hbq q6
          have hqm : q ≤ manyB r := by omega
          rw [if_pos hqm] at q11
          subst q11
          have hat : atomB (varsB n) r[q] = ⟨(l[P] : Int) / 4 % (varsB n : Nat), (l[P] : Int) / 32 % 3⟩ := by unfold atomB; rw [← hrq]; simp
          have ev : ((varsB n : Nat) : Int) ≠ 0 := by omega
          by_cases hlt : q < manyB r
          · have et : (r.take (min (q + 1) (manyB r))).map (atomB (varsB n)) = (r.take (min q (manyB r))).map (atomB (varsB n)) ++ [atomB (varsB n) r[q]] := by
              rw [Nat.min_eq_left (by omega), Nat.min_eq_left (by omega), List.take_succ_eq_append_getElem (by omega), List.map_append]; rfl
            simp +contextual (disch := omega) [Nat.add_assoc, Int.add_assoc, if_pos, if_neg, -Int.not_lt, -Int.not_le, -Nat.not_lt, -Nat.not_le, -List.length_flatMap, law08_Made.b1, q1, q2, q3, q4, q5, q6, q9, hiq, Int.tmod_eq_emod_of_nonneg, Int.tdiv_eq_ediv_of_nonneg, ev]
            refine q10.ap [atomB (varsB n) r[q]] (by simp +contextual (disch := omega) [Nat.add_assoc, Int.add_assoc, if_pos, if_neg, -Int.not_lt, -Int.not_le, -Nat.not_lt, -Nat.not_le, -List.length_flatMap]) (by omega) (by omega) (by simp [hat, cA]) rfl (by simp; omega) ?_
            intro F' ws m2 p0 p1 p2 p3
            simp +contextual (disch := omega) [Nat.add_assoc, Int.add_assoc, if_pos, if_neg, -Int.not_lt, -Int.not_le, -Nat.not_lt, -Nat.not_le, -List.length_flatMap, p0, p2, q1, q2, q3, q4, q5, q6, q9, p1.stor, p1.cells]
            refine ⟨by omega, q7.up (Nat.le_refl _) (fun j _ hj => ?_), by omega, ?_⟩
            · have := p2 j (by omega)
              simp +contextual (disch := omega) [Nat.add_assoc, Int.add_assoc, if_pos, if_neg, -Int.not_lt, -Int.not_le, -Nat.not_lt, -Nat.not_le, -List.length_flatMap, this]
            · have := (p1.up (x' := x' + 43) (m' := m2.set (x + 17) (some (.cells (F' :: cA ⟨0, 0⟩) false))) (by omega) (by simp +contextual (disch := omega) [Nat.add_assoc, Int.add_assoc, if_pos, if_neg, -Int.not_lt, -Int.not_le, -Nat.not_lt, -Nat.not_le, -List.length_flatMap])).to et.symm (Nat.le_refl _)
              rw [Nat.min_eq_left (by omega)] at this
              simpa using this
          · have hqe : q = manyB r := by omega
            simp +contextual (disch := omega) [Nat.add_assoc, Int.add_assoc, if_pos, if_neg, -Int.not_lt, -Int.not_le, -Nat.not_lt, -Nat.not_le, -List.length_flatMap, law08_Made.b1, q1, q2, q3, q4, q5, q6, q9, hiq, Int.tmod_eq_emod_of_nonneg, Int.tdiv_eq_ediv_of_nonneg, ev]
            subst hqe
            have hrm : (r[manyB r]?.map (atomB (varsB n))).getD ⟨0, 0⟩ = atomB (varsB n) r[manyB r] := by rw [List.getElem?_eq_getElem (by omega)]; rfl
            have ec : [V.i Go.IntKind.i64 (↑l[P] / 4 % ↑(varsB n)), V.i Go.IntKind.i64 (↑l[P] / 32 % 3)] = cA (atomB (varsB n) r[manyB r]) := by rw [hat]; rfl
            refine ⟨by omega, q7.up (Nat.le_refl _) (by simp +contextual (disch := omega) [Nat.add_assoc, Int.add_assoc, if_pos, if_neg, -Int.not_lt, -Int.not_le, -Nat.not_lt, -Nat.not_le, -List.length_flatMap]), by omega, F, ⟨rfl, ?_⟩, ?_⟩
            · exact ec
            · have := q10.up (x' := x' + 39) (m' := m') (by omega) (fun _ _ _ => rfl)
              have e6 : (r.take (min (manyB r) (manyB r))).map (atomB (varsB n)) = (r.map (atomB (varsB n))).take (manyB r) := by rw [Nat.min_self, List.map_take]
              exact (q10.up (x' := x' + 39) (by omega) (by simp +contextual (disch := omega) [Nat.add_assoc, Int.add_assoc, if_pos, if_neg, -Int.not_lt, -Int.not_le, -Nat.not_lt, -Nat.not_le, -List.length_flatMap])).to e6 (Nat.le_refl _)
        · rintro e m' x' ⟨q1, q2, q3, q4, q5, q6, q7, q8, F, T, q9, q10, q11⟩
          have hcl : (⟨(r.take (min N (manyB r))).map (atomB (varsB n)), T⟩ : C) = clauseB (varsB n) r := by
            rw [clauseB_cut hN.symm, q11]
            congr 1
            split
            · rw [List.getElem?_eq_none (by omega)]; rfl
            · rfl
          have hfin : ∀ (B' : V) (m2 : Sto) (x2 : Nat), Bn m2 B' cC 3 (o ++ [clauseB (varsB n) r]) 0 x2 1 → ∃ j, j < k ∧ ∃ i' o', j = l.length - i' ∧ i + N = i' ∧ Bn m2 B' cC 3 o' 0 x2 1 ∧ o'.length ≤ 30 ∧ i' ≤ l.length ∧ o' ++ madeB (varsB n) (30 - o'.length) (l.drop i') = M := by
            intro B' m2 x2 h
            refine ⟨l.length - (i + N), by omega, i + N, _, rfl, rfl, h, by simp; omega, by omega, ?_⟩
            have e1 : 30 - (o ++ [clauseB (varsB n) r]).length = d := by simp; omega
            have e2 : l.drop (i + N) = r.drop (manyB r + 1) := by
              rw [← List.drop_drop, hr]
              by_cases h : manyB r + 1 ≤ r.length
              · rw [← hN, Nat.min_eq_left h]
              · rw [List.drop_of_length_le (by omega), List.drop_of_length_le (by omega)]
            rw [e1, e2, List.append_assoc]
            exact g7
          obtain ⟨P, hP⟩ : ∃ P, P = i + N := ⟨_, rfl⟩
          rw [← hP] at q6 hfin
          by_cases hN2 : N ≤ manyB r
          all_goals (simp +contextual (disch := omega) [Nat.add_assoc, Int.add_assoc, if_pos, if_neg, -Int.not_lt, -Int.not_le, -Nat.not_lt, -Nat.not_le, -List.length_flatMap, law08_Made.b1, q1, q2, q3, q4, q5, q6, q9])
          all_goals
            refine q7.ap (clauseB (varsB n) r) (by simp +contextual (disch := omega) [Nat.add_assoc, Int.add_assoc, if_pos, if_neg, -Int.not_lt, -Int.not_le, -Nat.not_lt, -Nat.not_le, -List.length_flatMap]) (by omega) (by omega) ?_ (by simp) rfl (by omega) ?_
            · rw [← hcl]
              exact FzAt.cons (q10.at.wide (by omega) (by omega) (by simp +contextual (disch := omega) [Nat.add_assoc, Int.add_assoc, if_pos, if_neg, -Int.not_lt, -Int.not_le, -Nat.not_lt, -Nat.not_le, -List.length_flatMap])) (FzAt.fr (by simp))
            · intro B' ws m2 p0 p1 p2 p3
              simp +contextual (disch := omega) [Nat.add_assoc, Int.add_assoc, if_pos, if_neg, -Int.not_lt, -Int.not_le, -Nat.not_lt, -Nat.not_le, -List.length_flatMap, p0, q1, q2, q6]
              obtain ⟨j, hj, i', o', h1, h2, h3⟩ := hfin B' m2 _ (p1.up (Nat.le_add_right _ 1) (fun _ _ _ => rfl))
              exact ⟨j, hj, i', h1, by omega, o', h3⟩
      · have e1 : 30 - o.length = 0 := by omega
        rw [e1, madeB, List.append_nil] at g7
        obtain ⟨ids, hz⟩ := g4.fz24 (by omega)
        simp +contextual (disch := omega) [Nat.add_assoc, Int.add_assoc, if_pos, if_neg, -Int.not_lt, -Int.not_le, -Nat.not_lt, -Nat.not_le, -List.length_flatMap, law08_Made.b2, g1, g2, g3, g4.len, hi, hz]
        rw [g7]
    · have e1 : l.drop i = [] := List.drop_of_length_le (by omega)
      have e2 : madeB (varsB n) (30 - o.length) [] = [] := by unfold madeB; split <;> simp
      rw [e1, e2, List.append_nil] at g7
      obtain ⟨ids, hz⟩ := g4.fz24 (by omega)
      simp +contextual (disch := omega) [Nat.add_assoc, Int.add_assoc, if_pos, if_neg, -Int.not_lt, -Int.not_le, -Nat.not_lt, -Nat.not_le, -List.length_flatMap, law08_Made.b2, g1, g2, g3, g4.len, hi, hz]
      rw [g7]
end Pi
