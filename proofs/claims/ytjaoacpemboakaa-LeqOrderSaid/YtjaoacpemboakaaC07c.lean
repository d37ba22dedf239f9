/- Contracts: levels by cases (layer 7): values by which a flat is more. -/
import Derived.Test.YtjaoacpemboakaaC07b
set_option linter.unusedSimpArgs false
set_option linter.unusedVariables false
namespace Pi
def baseZ (z : List Bool) : List Int := z.map fun b => if b = true then 0 else 1
def greatF (g : F) : Int := max (g.cst + 2) (topF g + 3)
def moreAt : List Int → List Int → Nat → Option Nat
  | a :: l, b :: r, i => if b < a then some i else moreAt l r (i + 1)
  | _, _, _ => none
def againstS (f g : F) (z : List Bool) : List Int := match moreAt f.offs g.offs 0 with
  | some i => (baseZ z).set i (greatF g)
  | none => baseZ z
theorem baseZ_len (z : List Bool) : (baseZ z).length = z.length := by simp [baseZ]
theorem againstS_len (f g : F) (z : List Bool) : (againstS f g z).length = z.length := by
  unfold againstS
  split <;> simp [baseZ]
theorem moreAt_at {a b : List Int} {i : Nat} (h1 : i < a.length) (h2 : i < b.length) : moreAt (a.drop i) (b.drop i) i = if b[i] < a[i] then some i else moreAt (a.drop (i + 1)) (b.drop (i + 1)) (i + 1) := by
  rw [List.drop_eq_getElem_cons h1, List.drop_eq_getElem_cons h2, moreAt]
theorem moreAt_end {a b : List Int} {i j : Nat} (h1 : a.length ≤ i) : moreAt (a.drop i) (b.drop i) j = none := by
  rw [List.drop_of_length_le h1]; simp [moreAt]
theorem leq_against_1.a (i : Nat) (f g : F) (h1 : i < f.offs.length) (h2 : i < g.offs.length) : Ans ctx leq_against_1.n [.i .i64 i, .rp (cF f), .rp (cF g)] (.b (decide (g.offs[i] < f.offs[i]))) := by
  refine ans leq_against_1.f ?_
  simp +contextual (disch := omega) [Nat.add_assoc, Int.add_assoc, if_pos, if_neg, -Int.not_lt, -Int.not_le, -Nat.not_lt, -Nat.not_le, -List.length_flatMap, leq_against_1.c, h1, h2]
theorem base_step {z : List Bool} {i : Nat} (hi : i < z.length) : (baseZ (z.take i) ++ List.replicate (z.length - i) 0).set i (if z[i] = true then 0 else 1) = baseZ (z.take (i + 1)) ++ List.replicate (z.length - (i + 1)) 0 := by
  have hl : (baseZ (z.take i)).length = i := by rw [baseZ_len, List.length_take]; omega
  obtain ⟨d, hd⟩ : ∃ d, z.length - i = d + 1 := ⟨z.length - i - 1, by omega⟩
  rw [List.set_append_right _ _ (by omega), hl, Nat.sub_self, hd, List.replicate_succ, List.set_cons_zero, List.take_succ_eq_append_getElem hi, (by omega : z.length - (i + 1) = d)]
  simp only [baseZ, List.map_append, List.map_cons, List.map_nil, List.append_assoc, List.cons_append, List.nil_append]
theorem base_same {z : List Bool} {i : Nat} (hi : i < z.length) (hz : z[i] = true) : baseZ (z.take i) ++ List.replicate (z.length - i) 0 = baseZ (z.take (i + 1)) ++ List.replicate (z.length - (i + 1)) 0 := by
  rw [← base_step hi, if_pos hz]
  refine (List.ext_getElem (by simp) fun j h1 h2 => ?_).symm
  rw [List.getElem_set]
  split
  · rename_i h
    subst h
    have hl : (baseZ (z.take i)).length = i := by rw [baseZ_len, List.length_take]; omega
    rw [List.getElem_append_right (by omega)]
    simp
  · rfl
set_option maxHeartbeats 1000000 in
theorem leq_against.a (f g : F) (z : List Bool) (hf : rightF f = true) (hg : rightF g = true) (hl1 : f.offs.length = z.length) (hl2 : g.offs.length = z.length) : Ans ctx leq_against.n [.ag (cF f), .ag (cF g), sV cB z] (sV cI (againstS f g z)) := by
  refine ans leq_against.f ?_
  obtain ⟨f1, f2, f3, f4, f5⟩ := right_F hf
  obtain ⟨g1, g2, g3, g4, g5⟩ := right_F hg
  obtain ⟨R, hR⟩ : ∃ R, R = againstS f g z := ⟨_, rfl⟩
  rw [← hR]
  by_cases hz0 : z.length = 0
  · have e1 : z = [] := List.eq_nil_of_length_eq_zero hz0
    have e2 : f.offs = [] := List.eq_nil_of_length_eq_zero (by omega)
    have hR0 : R = [] := by rw [hR]; unfold againstS; rw [e2]; simp [moreAt, baseZ, e1]
    subst e1
    simp +contextual (disch := omega) [Nat.add_assoc, Int.add_assoc, if_pos, if_neg, -Int.not_lt, -Int.not_le, -Nat.not_lt, -Nat.not_le, -List.length_flatMap, leq_against.c]
    refine un_w ?_
    simp +contextual (disch := omega) [Nat.add_assoc, Int.add_assoc, if_pos, if_neg, -Int.not_lt, -Int.not_le, -Nat.not_lt, -Nat.not_le, -List.length_flatMap, leq_against.b1, e2]
    refine un_w ?_
    simp +contextual (disch := omega) [Nat.add_assoc, Int.add_assoc, if_pos, if_neg, -Int.not_lt, -Int.not_le, -Nat.not_lt, -Nat.not_le, -List.length_flatMap, leq_against.b2, hR0]
  · have hzz : zeros [V.i .i64 0] z.length = (List.replicate z.length (0 : Int)).flatMap cI := zeros_cI _
    simp +contextual (disch := omega) [Nat.add_assoc, Int.add_assoc, if_pos, if_neg, -Int.not_lt, -Int.not_le, -Nat.not_lt, -Nat.not_le, -List.length_flatMap, leq_against.c, hz0, hzz]
    clear hzz
    obtain ⟨n, hn⟩ : ∃ n, n = z.length := ⟨_, rfl⟩
    rw [← hn] at hl1 hl2 hz0 ⊢
    refine for_w (fun i e m x => e 3 = .p 0 0 ∧ e 4 = .p 1 0 ∧ e 7 = .ms 5 0 n 1 ∧ e 15 = sV cB z ∧ e 16 = .i .i64 n ∧ e 17 = .i .i64 i ∧ 6 ≤ x ∧ m 0 = some (.cells (cF f) false) ∧ m 1 = some (.cells (cF g) false) ∧ m 5 = some (.cells ((baseZ (z.take i) ++ List.replicate (z.length - i) 0).flatMap cI) false)) n ?_ ?_ ?_
    · have e0 : baseZ [] = [] := rfl
      simp +contextual (disch := omega) [Nat.add_assoc, Int.add_assoc, if_pos, if_neg, -Int.not_lt, -Int.not_le, -Nat.not_lt, -Nat.not_le, -List.length_flatMap, e0, hn]
    · rintro i e m x hi ⟨q3, q4, q7, q15, q16, q17, gx, y0, y1, y5⟩
      have hiz : i < z.length := by omega
      have hbs := base_step hiz
      have hbq := base_same hiz
      have hln : (baseZ (z.take i) ++ List.replicate (z.length - i) 0).length = n := by
        have := baseZ_len (z.take i)
        simp [List.length_take] at this ⊢
        omega
      obtain ⟨o, ho⟩ : ∃ o, o = baseZ (z.take i) ++ List.replicate (z.length - i) 0 := ⟨_, rfl⟩
      obtain ⟨o2, ho2⟩ : ∃ o2, o2 = baseZ (z.take (i + 1)) ++ List.replicate (z.length - (i + 1)) 0 := ⟨_, rfl⟩
      rw [← ho] at hbs hbq hln y5
      rw [← ho2] at hbs hbq ⊢
      have hcl : (o.flatMap cI).length = n := by rw [flatI_len, hln]
      cases hzi : z[i] with
      | true =>
        have := hbq hzi
        subst this
        simp +contextual (disch := omega) [Nat.add_assoc, Int.add_assoc, if_pos, if_neg, -Int.not_lt, -Int.not_le, -Nat.not_lt, -Nat.not_le, -List.length_flatMap, leq_against.b1, q3, q4, q7, q15, q16, q17, y0, y1, y5, hi, hiz, hzi]
      | false =>
        rw [hzi, if_neg (by simp)] at hbs
        have hfs := flatI_set (l := o) (j := i) (v := 1) (by omega)
        rw [hbs] at hfs
        simp +contextual (disch := omega) [Nat.add_assoc, Int.add_assoc, if_pos, if_neg, -Int.not_lt, -Int.not_le, -Nat.not_lt, -Nat.not_le, -List.length_flatMap, leq_against.b1, q3, q4, q7, q15, q16, q17, y0, y1, y5, hi, hiz, hzi, hcl, hfs]
    · rintro e m x ⟨q3, q4, q7, q15, q16, q17, gx, y0, y1, y5⟩
      rw [hn, Nat.sub_self, List.replicate_zero, List.append_nil, List.take_length] at y5
      have hbl := baseZ_len z
      rw [← hn] at hbl
      have hcl : ((baseZ z).flatMap cI).length = n := by rw [flatI_len, hbl]
      simp +contextual (disch := omega) [Nat.add_assoc, Int.add_assoc, if_pos, if_neg, -Int.not_lt, -Int.not_le, -Nat.not_lt, -Nat.not_le, -List.length_flatMap, leq_against.b1, q3, q4, q7, q15, q16, q17, y0, y1]
      refine for_w (fun i e m x => e 4 = .p 1 0 ∧ e 7 = .ms 5 0 n 1 ∧ e 10 = .fn (.func leq_against_1.n) [] [.p 0 0, .p 1 0] ∧ e 31 = .i .i64 n ∧ e 32 = .i .i64 i ∧ 6 ≤ x ∧ m 0 = some (.cells (cF f) false) ∧ m 1 = some (.cells (cF g) false) ∧ m 5 = some (.cells ((baseZ z).flatMap cI) false) ∧ moreAt f.offs g.offs 0 = moreAt (f.offs.drop i) (g.offs.drop i) i) n ?_ ?_ ?_
      · simp +contextual (disch := omega) [Nat.add_assoc, Int.add_assoc, if_pos, if_neg, -Int.not_lt, -Int.not_le, -Nat.not_lt, -Nat.not_le, -List.length_flatMap, hl1]
        exact ⟨q4, q7, y0, y1, y5⟩
      · rintro i e m x hi ⟨q4, q7, q10, q31, q32, gx, y0, y1, y5, hmo⟩
        have hi1 : i < f.offs.length := by omega
        have hi2 : i < g.offs.length := by omega
        rw [moreAt_at hi1 hi2] at hmo
        have hc := leq_against_1.a i f g hi1 hi2
        by_cases hlt : g.offs[i] < f.offs[i]
        · rw [if_pos hlt] at hmo
          rw [decide_eq_true hlt] at hc
          have hR2 : R = (baseZ z).set i (greatF g) := by rw [hR]; unfold againstS; rw [hmo]
          have hfs := flatI_set (l := baseZ z) (j := i) (v := greatF g) (by omega)
          have hT := flat_Top.a g (by omega)
          unfold greatF at hfs hR2
          obtain ⟨w, hw⟩ : ∃ w, w = (baseZ z).set i (max (g.cst + 2) (topF g + 3)) := ⟨_, rfl⟩
          rw [← hw] at hfs hR2
          have hwl : w.length = n := by rw [hw, List.length_set, hbl]
          have hcl2 : (w.flatMap cI).length = n := by rw [flatI_len, hwl]
          have htk := flatI_all (q := w) (n := n) hwl.symm
          simp +contextual (disch := omega) [Nat.add_assoc, Int.add_assoc, if_pos, if_neg, -Int.not_lt, -Int.not_le, -Nat.not_lt, -Nat.not_le, -List.length_flatMap, leq_against.b2, q4, q7, q10, q31, q32, y0, y1, y5, hi, ansK hc, ansK hT, hcl, hfs, hcl2, htk]
          rw [hR2]
          simp [sV, hwl]
        · rw [if_neg hlt] at hmo
          rw [decide_eq_false hlt] at hc
          simp +contextual (disch := omega) [Nat.add_assoc, Int.add_assoc, if_pos, if_neg, -Int.not_lt, -Int.not_le, -Nat.not_lt, -Nat.not_le, -List.length_flatMap, leq_against.b2, q4, q7, q10, q31, q32, y0, y1, y5, hi, ansK hc]
          exact hmo
      · rintro e m x ⟨q4, q7, q10, q31, q32, gx, y0, y1, y5, hmo⟩
        rw [moreAt_end (by omega)] at hmo
        have hR2 : R = baseZ z := by rw [hR]; unfold againstS; rw [hmo]
        have htk := flatI_all (q := baseZ z) (n := n) hbl.symm
        simp +contextual (disch := omega) [Nat.add_assoc, Int.add_assoc, if_pos, if_neg, -Int.not_lt, -Int.not_le, -Nat.not_lt, -Nat.not_le, -List.length_flatMap, leq_against.b2, q4, q7, q10, q31, q32, y0, y1, y5, hcl, htk]
        rw [hR2]
        exact ⟨rfl, hbl.symm⟩
theorem great_up (l : List Int) (c t : Int) (hc : 2 ≤ c) (ht : -1 ≤ t) : l.foldl (fun a o => max a (o + 3)) (max c (t + 3)) = max c (l.foldl max t + 3) := by
  induction l generalizing t with
  | nil => rfl
  | cons b l ih =>
    simp only [List.foldl_cons]
    rw [← ih (max t b) (by omega)]
    congr 1
    omega
theorem base_take {z : List Bool} {i : Nat} (hi : i < z.length) : baseZ (z.take (i + 1)) = baseZ (z.take i) ++ [if z[i] = true then 0 else 1] := by
  rw [List.take_succ_eq_append_getElem hi]
  simp only [baseZ, List.map_append, List.map_cons, List.map_nil]
set_option maxHeartbeats 1000000 in
theorem ref07_against.a (f g : F) (z : List Bool) (hf : rightF f = true) (hg : rightF g = true) (hl1 : f.offs.length = z.length) (hl2 : g.offs.length = z.length) : Ans ctx ref07_against.n [.ag (cF f), .ag (cF g), sV cB z] (sV cI (againstS f g z)) := by
  refine ans ref07_against.f ?_
  obtain ⟨f1, f2, f3, f4, f5⟩ := right_F hf
  obtain ⟨g1, g2, g3, g4, g5⟩ := right_F hg
  obtain ⟨R, hR⟩ : ∃ R, R = againstS f g z := ⟨_, rfl⟩
  rw [← hR]
  simp +contextual (disch := omega) [Nat.add_assoc, Int.add_assoc, if_pos, if_neg, -Int.not_lt, -Int.not_le, -Nat.not_lt, -Nat.not_le, -List.length_flatMap, ref07_against.c]
  refine for_w (fun i e m x => e 2 = sV cB z ∧ e 3 = .p 0 0 ∧ e 4 = .p 1 0 ∧ e 8 = .i .i64 i ∧ 2 ≤ x ∧ m 0 = some (.cells (cF f) false) ∧ m 1 = some (.cells (cF g) false) ∧ Ex m (e 7) (baseZ (z.take i)) 2 x) z.length ?_ ?_ ?_
  · simp +contextual (disch := omega) [Nat.add_assoc, Int.add_assoc, if_pos, if_neg, -Int.not_lt, -Int.not_le, -Nat.not_lt, -Nat.not_le, -List.length_flatMap]
    exact .inl ⟨rfl, rfl⟩
  · rintro i e m x hi ⟨q2, q3, q4, q8, gx, y0, y1, gB⟩
    generalize hB : e 7 = B at gB
    have hbt := base_take hi
    have hbl := baseZ_len (z.take i)
    have hln : (baseZ (z.take i)).length ≤ 5 := by rw [hbl, List.length_take]; omega
    cases hzi : z[i] with
    | true =>
      rw [hzi, if_pos rfl] at hbt
      simp +contextual (disch := omega) [Nat.add_assoc, Int.add_assoc, if_pos, if_neg, -Int.not_lt, -Int.not_le, -Nat.not_lt, -Nat.not_le, -List.length_flatMap, ref07_against.b1, q2, q3, q4, q8, y0, y1, hB, hi, hzi, -apV_ns]
      refine gB.ap [0] (fun j h1 h2 => by simp +contextual (disch := omega) [Nat.add_assoc, Int.add_assoc, if_pos, if_neg, -Int.not_lt, -Int.not_le, -Nat.not_lt, -Nat.not_le, -List.length_flatMap]) (by omega) (by omega) rfl rfl (by simp) (by simp; omega) ?_
      intro B' ws m2 z0 z1 z2 z3
      rw [← hbt] at z1
      have r0 : m2 0 = some (.cells (cF f) false) := by rw [z2 0 (by omega)]; simp +contextual (disch := omega) [Nat.add_assoc, Int.add_assoc, if_pos, if_neg, -Int.not_lt, -Int.not_le, -Nat.not_lt, -Nat.not_le, -List.length_flatMap, y0]
      have r1 : m2 1 = some (.cells (cF g) false) := by rw [z2 1 (by omega)]; simp +contextual (disch := omega) [Nat.add_assoc, Int.add_assoc, if_pos, if_neg, -Int.not_lt, -Int.not_le, -Nat.not_lt, -Nat.not_le, -List.length_flatMap, y1]
      have hst := z1.stor
      simp +contextual (disch := omega) [Nat.add_assoc, Int.add_assoc, if_pos, if_neg, -Int.not_lt, -Int.not_le, -Nat.not_lt, -Nat.not_le, -List.length_flatMap, z0, q2, q3, q4, q8, r0, r1, hst.1, hst.2.1]
      exact z1.up (Nat.le_refl _) (by omega) (fun _ _ _ => rfl)
    | false =>
      rw [hzi, if_neg (by simp)] at hbt
      simp +contextual (disch := omega) [Nat.add_assoc, Int.add_assoc, if_pos, if_neg, -Int.not_lt, -Int.not_le, -Nat.not_lt, -Nat.not_le, -List.length_flatMap, ref07_against.b1, q2, q3, q4, q8, y0, y1, hB, hi, hzi, -apV_ns]
      refine gB.ap [1] (fun j h1 h2 => by simp +contextual (disch := omega) [Nat.add_assoc, Int.add_assoc, if_pos, if_neg, -Int.not_lt, -Int.not_le, -Nat.not_lt, -Nat.not_le, -List.length_flatMap]) (by omega) (by omega) rfl rfl (by simp) (by simp; omega) ?_
      intro B' ws m2 z0 z1 z2 z3
      rw [← hbt] at z1
      have r0 : m2 0 = some (.cells (cF f) false) := by rw [z2 0 (by omega)]; simp +contextual (disch := omega) [Nat.add_assoc, Int.add_assoc, if_pos, if_neg, -Int.not_lt, -Int.not_le, -Nat.not_lt, -Nat.not_le, -List.length_flatMap, y0]
      have r1 : m2 1 = some (.cells (cF g) false) := by rw [z2 1 (by omega)]; simp +contextual (disch := omega) [Nat.add_assoc, Int.add_assoc, if_pos, if_neg, -Int.not_lt, -Int.not_le, -Nat.not_lt, -Nat.not_le, -List.length_flatMap, y1]
      have hst := z1.stor
      simp +contextual (disch := omega) [Nat.add_assoc, Int.add_assoc, if_pos, if_neg, -Int.not_lt, -Int.not_le, -Nat.not_lt, -Nat.not_le, -List.length_flatMap, z0, q2, q3, q4, q8, r0, r1, hst.1, hst.2.1]
      exact z1.up (Nat.le_refl _) (by omega) (fun _ _ _ => rfl)
  · rintro e m x ⟨q2, q3, q4, q8, gx, y0, y1, gB⟩
    rw [List.take_length] at gB
    generalize hB : e 7 = B at gB
    simp +contextual (disch := omega) [Nat.add_assoc, Int.add_assoc, if_pos, if_neg, -Int.not_lt, -Int.not_le, -Nat.not_lt, -Nat.not_le, -List.length_flatMap, ref07_against.b1, q2, q3, q4, q8, y0, y1, hB]
    refine for_w (fun i e m x => e 3 = .p 0 0 ∧ e 4 = .p 1 0 ∧ e 7 = B ∧ e 10 = .i .i64 ((g.offs.take i).foldl (fun a o => max a (o + 3)) (g.cst + 2)) ∧ e 11 = .i .i64 i ∧ 2 ≤ x ∧ m 0 = some (.cells (cF f) false) ∧ m 1 = some (.cells (cF g) false) ∧ Ex m B (baseZ z) 2 x) g.offs.length ?_ ?_ ?_
    · simp +contextual (disch := omega) [Nat.add_assoc, Int.add_assoc, if_pos, if_neg, -Int.not_lt, -Int.not_le, -Nat.not_lt, -Nat.not_le, -List.length_flatMap, q3, q4, hB, y0, y1]
      exact gB.up (Nat.le_refl _) (by omega) (fun _ _ _ => rfl)
    · rintro i e m x hi ⟨q3, q4, q7, q10, q11, gx, y0, y1, gB⟩
      have hoi := g3 _ (List.getElem_mem hi)
      have hfo := take_fold (f := fun a o => max a (o + 3)) (b := g.cst + 2) hi
      simp +contextual (disch := omega) [Nat.add_assoc, Int.add_assoc, if_pos, if_neg, -Int.not_lt, -Int.not_le, -Nat.not_lt, -Nat.not_le, -List.length_flatMap, ref07_against.b2, q3, q4, q7, q10, q11, y0, y1, hi, hfo]
      exact gB.up (Nat.le_refl _) (by omega) (fun _ _ _ => rfl)
    · rintro e m x ⟨q3, q4, q7, q10, q11, gx, y0, y1, gB⟩
      have hgu := great_up g.offs (g.cst + 2) (-1) (by omega) (by omega)
      rw [(by omega : max (g.cst + 2) (-1 + 3) = g.cst + 2)] at hgu
      rw [List.take_length, hgu] at q10
      have q10' : e 10 = .i .i64 (greatF g) := q10
      simp +contextual (disch := omega) [Nat.add_assoc, Int.add_assoc, if_pos, if_neg, -Int.not_lt, -Int.not_le, -Nat.not_lt, -Nat.not_le, -List.length_flatMap, ref07_against.b2, q3, q4, q7, q10', q11, y0, y1]
      refine for_w (fun i e m x => e 3 = .p 0 0 ∧ e 4 = .p 1 0 ∧ e 7 = B ∧ e 10 = .i .i64 (greatF g) ∧ e 12 = .i .i64 i ∧ 2 ≤ x ∧ m 0 = some (.cells (cF f) false) ∧ m 1 = some (.cells (cF g) false) ∧ Ex m B (baseZ z) 2 x ∧ moreAt f.offs g.offs 0 = moreAt (f.offs.drop i) (g.offs.drop i) i) f.offs.length ?_ ?_ ?_
      · simp +contextual (disch := omega) [Nat.add_assoc, Int.add_assoc, if_pos, if_neg, -Int.not_lt, -Int.not_le, -Nat.not_lt, -Nat.not_le, -List.length_flatMap, q3, q4, q7, q10', y0, y1]
        exact gB.up (Nat.le_refl _) (by omega) (fun _ _ _ => rfl)
      · rintro i e m x hi ⟨q3, q4, q7, q10, q12, gx, y0, y1, gB, hmo⟩
        have hi2 : i < g.offs.length := by omega
        rw [moreAt_at hi hi2] at hmo
        by_cases hlt : g.offs[i] < f.offs[i]
        · rw [if_pos hlt] at hmo
          have hR2 : R = (baseZ z).set i (greatF g) := by rw [hR]; unfold againstS; rw [hmo]
          have hbl := baseZ_len z
          have hfs := flatI_set (l := baseZ z) (j := i) (v := greatF g) (by omega)
          obtain ⟨w, hw⟩ : ∃ w, w = (baseZ z).set i (greatF g) := ⟨_, rfl⟩
          rw [← hw] at hfs hR2
          have hwl : w.length = (baseZ z).length := by rw [hw, List.length_set]
          have hcl : ((baseZ z).flatMap cI).length = (baseZ z).length := flatI_len _
          have hcl2 : (w.flatMap cI).length = (baseZ z).length := by rw [flatI_len, hwl]
          have htk := flatI_all (q := w) (n := (baseZ z).length) hwl.symm
          rcases gB with ⟨_, h⟩ | ⟨b, rfl, y5, h2, h3⟩
          · rw [h] at hbl; simp at hbl; omega
          · have hib : i < (baseZ z).length := by omega
            simp +contextual (disch := omega) [Nat.add_assoc, Int.add_assoc, if_pos, if_neg, -Int.not_lt, -Int.not_le, -Nat.not_lt, -Nat.not_le, -List.length_flatMap, ref07_against.b3, q3, q4, q7, q10, q12, y0, y1, y5, hi, hi2, hlt, hcl, hfs, hcl2, htk, hib]
            rw [hR2]
            simp [sV, hwl]
        · rw [if_neg hlt] at hmo
          simp +contextual (disch := omega) [Nat.add_assoc, Int.add_assoc, if_pos, if_neg, -Int.not_lt, -Int.not_le, -Nat.not_lt, -Nat.not_le, -List.length_flatMap, ref07_against.b3, q3, q4, q7, q10, q12, y0, y1, hi, hi2, hlt]
          exact ⟨gB.up (Nat.le_refl _) (by omega) (fun _ _ _ => rfl), hmo⟩
      · rintro e m x ⟨q3, q4, q7, q10, q12, gx, y0, y1, gB, hmo⟩
        rw [moreAt_end (by omega)] at hmo
        have hR2 : R = baseZ z := by rw [hR]; unfold againstS; rw [hmo]
        have hz := gB.bf.fz24
        simp +contextual (disch := omega) [Nat.add_assoc, Int.add_assoc, if_pos, if_neg, -Int.not_lt, -Int.not_le, -Nat.not_lt, -Nat.not_le, -List.length_flatMap, ref07_against.b3, q3, q4, q7, q10, q12, y0, y1, hz]
        rw [hR2]
end Pi
