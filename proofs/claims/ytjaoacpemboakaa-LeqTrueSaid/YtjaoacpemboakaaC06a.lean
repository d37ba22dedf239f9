/- Contracts: flats (layer 6): Top, Right, Value, Leq, and the document's. -/
import Derived.Test.YtjaoacpemboakaaC02e
import Derived.Test.YtjaoacpemboakaaEncF
set_option linter.unusedSimpArgs false
set_option linter.unusedVariables false
namespace Pi
theorem slices_Max_int.a (a : Int) (l : List Int) (hl : l.length ≤ 1000000) : Ans ctx slices_Max_int.n [sV cI (a :: l)] (.i .i64 (l.foldl max a)) := by
  refine ans slices_Max_int.f ?_
  simp +contextual (disch := omega) [Nat.add_assoc, Int.add_assoc, if_pos, if_neg, -Int.not_lt, -Int.not_le, -Nat.not_lt, -Nat.not_le, -List.length_flatMap, slices_Max_int.c]
  refine for_w (fun i e m x => e 0 = sV cI (a :: l) ∧ e 3 = .i .i64 ((l.take i).foldl max a) ∧ e 4 = .i .i64 (i + 1)) l.length ?_ ?_ ?_
  · simp +contextual (disch := omega) [Nat.add_assoc, Int.add_assoc, if_pos, if_neg, -Int.not_lt, -Int.not_le, -Nat.not_lt, -Nat.not_le, -List.length_flatMap]
  · rintro i e m x hi ⟨g0, g3, g4⟩
    simp +contextual (disch := omega) [Nat.add_assoc, Int.add_assoc, if_pos, if_neg, -Int.not_lt, -Int.not_le, -Nat.not_lt, -Nat.not_le, -List.length_flatMap, slices_Max_int.b1, g0, g3, g4, hi, take_fold]
  · rintro e m x ⟨g0, g3, g4⟩
    rw [List.take_length] at g3
    simp +contextual (disch := omega) [Nat.add_assoc, Int.add_assoc, if_pos, if_neg, -Int.not_lt, -Int.not_le, -Nat.not_lt, -Nat.not_le, -List.length_flatMap, slices_Max_int.b1, g0, g3, g4]
theorem flat_Top.a (f : F) (hl : f.offs.length ≤ 1000000) : Ans ctx flat_Top.n [.ag (cF f)] (.i .i64 (topF f)) := by
  refine ans flat_Top.f ?_
  have h := slices_Max_int.a (-1) f.offs hl
  simp +contextual (disch := omega) [Nat.add_assoc, Int.add_assoc, if_pos, if_neg, -Int.not_lt, -Int.not_le, -Nat.not_lt, -Nat.not_le, -List.length_flatMap, flat_Top.c, -apV_ms]
  refine (Bf.mem (f := cI) (k := 1) (lo := 2) (x := 3) (l := [-1]) (cs := [.i .i64 (-1)]) (by rw [Sto.seq]) rfl rfl (by omega) (by omega)).ap f.offs (fun j _ _ => rfl) (by omega) (by omega) rfl rfl (by simp; omega) ?_
  intro B' ws m2 z0 z1 _ _
  have hz := z1.fz24
  rw [List.singleton_append] at hz
  simp +contextual (disch := omega) [Nat.add_assoc, Int.add_assoc, if_pos, if_neg, -Int.not_lt, -Int.not_le, -Nat.not_lt, -Nat.not_le, -List.length_flatMap, z0, z1.stor, z1.cells, hz, ansK h, topF]
theorem flat_Right_1.a (n : Int) : Ans ctx flat_Right_1.n [.i .i64 n] (.b (oddO n)) := by
  refine ans flat_Right_1.f ?_
  simp +contextual (disch := omega) [Nat.add_assoc, Int.add_assoc, if_pos, if_neg, -Int.not_lt, -Int.not_le, -Nat.not_lt, -Nat.not_le, -List.length_flatMap, flat_Right_1.c, oddO]
theorem flat_Value_1.a (n : Int) : Ans ctx flat_Value_1.n [.i .i64 n] (.b (oddN n)) := by
  refine ans flat_Value_1.f ?_
  simp +contextual (disch := omega) [Nat.add_assoc, Int.add_assoc, if_pos, if_neg, -Int.not_lt, -Int.not_le, -Nat.not_lt, -Nat.not_le, -List.length_flatMap, flat_Value_1.c, oddN]
theorem flat_Right.a (f : F) (hl : f.offs.length ≤ 1000000) : Ans ctx flat_Right.n [.ag (cF f)] (.b (rightF f)) := by
  refine ans flat_Right.f ?_
  have hC := slices_ContainsFunc_int.a f.offs flat_Right_1.n [] oddO rfl rfl (by simp) (fun k _ => flat_Right_1.a k) (by omega)
  by_cases h1 : f.offs.length ≤ 5
  · by_cases h2 : 0 ≤ f.cst
    · by_cases h3 : f.cst ≤ 1000
      · cases h4 : f.offs.any oddO with
        | true =>
          rw [h4] at hC
          have hr : rightF f = false := by simp [rightF, h4]
          simp +contextual (disch := omega) [Nat.add_assoc, Int.add_assoc, if_pos, if_neg, -Int.not_lt, -Int.not_le, -Nat.not_lt, -Nat.not_le, -List.length_flatMap, flat_Right.c, ansK hC, h1, h2, h3, hr]
        | false =>
          rw [h4] at hC
          have hb : topF f ≤ 1000 := fmax_le _ _ _ (by omega) (fun a ha => by
            rw [List.any_eq_false] at h4
            have := h4 a ha
            simp [oddO] at this
            omega)
          have hb2 : -1 ≤ topF f := fmax_ge _ _
          simp +contextual (disch := omega) [Nat.add_assoc, Int.add_assoc, if_pos, if_neg, -Int.not_lt, -Int.not_le, -Nat.not_lt, -Nat.not_le, -List.length_flatMap, flat_Right.c, ansK hC, h1, h2, h3, rightF, h4, ansK (flat_Top.a f hl)]
      · have hr : rightF f = false := by simp [rightF, h3]
        simp +contextual (disch := omega) [Nat.add_assoc, Int.add_assoc, if_pos, if_neg, -Int.not_lt, -Int.not_le, -Nat.not_lt, -Nat.not_le, -List.length_flatMap, flat_Right.c, h1, h2, h3, hr]
    · have hr : rightF f = false := by simp [rightF, h2]
      simp +contextual (disch := omega) [Nat.add_assoc, Int.add_assoc, if_pos, if_neg, -Int.not_lt, -Int.not_le, -Nat.not_lt, -Nat.not_le, -List.length_flatMap, flat_Right.c, h1, h2, hr]
  · have hr : rightF f = false := by simp [rightF, h1]
    simp +contextual (disch := omega) [Nat.add_assoc, Int.add_assoc, if_pos, if_neg, -Int.not_lt, -Int.not_le, -Nat.not_lt, -Nat.not_le, -List.length_flatMap, flat_Right.c, h1, hr]
theorem ref06_Right.a (f : F) (hl : f.offs.length ≤ 1000000) : Ans ctx ref06_Right.n [.ag (cF f)] (.b (rightF f)) := by
  refine ans ref06_Right.f ?_
  obtain ⟨r, hr⟩ : ∃ r, r = rightF f := ⟨_, rfl⟩
  rw [← hr]
  simp +contextual (disch := omega) [Nat.add_assoc, Int.add_assoc, if_pos, if_neg, -Int.not_lt, -Int.not_le, -Nat.not_lt, -Nat.not_le, -List.length_flatMap, ref06_Right.c]
  refine for_w (fun i e m x => e 1 = .p 0 0 ∧ m 0 = some (.cells (cF f) false) ∧ e 4 = .i .i64 i ∧ e 3 = .i .i64 ((f.offs.take i).foldl max (-1)) ∧ (f.offs.take i).any oddO = false) f.offs.length ?_ ?_ ?_
  · simp +contextual (disch := omega) [Nat.add_assoc, Int.add_assoc, if_pos, if_neg, -Int.not_lt, -Int.not_le, -Nat.not_lt, -Nat.not_le, -List.length_flatMap]
  · rintro i e m x hi ⟨g1, y0, g4, g3, hg⟩
    by_cases h1 : f.offs[i] < -1
    · have hf : r = false := by
        have : f.offs.any oddO = true := List.any_eq_true.2 ⟨_, List.getElem_mem hi, by simp [oddO, h1]⟩
        rw [hr]; simp [rightF, this]
      simp +contextual (disch := omega) [Nat.add_assoc, Int.add_assoc, if_pos, if_neg, -Int.not_lt, -Int.not_le, -Nat.not_lt, -Nat.not_le, -List.length_flatMap, ref06_Right.b1, g1, y0, g4, g3, hi, h1, hf]
    · by_cases h2 : 1000 < f.offs[i]
      · have hf : r = false := by
          have : f.offs.any oddO = true := List.any_eq_true.2 ⟨_, List.getElem_mem hi, by simp [oddO, h2]⟩
          rw [hr]; simp [rightF, this]
        simp +contextual (disch := omega) [Nat.add_assoc, Int.add_assoc, if_pos, if_neg, -Int.not_lt, -Int.not_le, -Nat.not_lt, -Nat.not_le, -List.length_flatMap, ref06_Right.b1, g1, y0, g4, g3, hi, h1, h2, hf]
      · have hg' : (f.offs.take (i + 1)).any oddO = false := by rw [take_any hi, hg]; simp [oddO]; omega
        have hg2 : ∀ x, x ∈ f.offs.take (i + 1) → oddO x = false := fun x hx => by rw [List.any_eq_false] at hg'; simpa using hg' x hx
        simp +contextual (disch := omega) [Nat.add_assoc, Int.add_assoc, if_pos, if_neg, -Int.not_lt, -Int.not_le, -Nat.not_lt, -Nat.not_le, -List.length_flatMap, ref06_Right.b1, g1, y0, g4, g3, hi, h1, h2, take_fold]
        exact hg2
  · rintro e m x ⟨g1, y0, g4, g3, hg⟩
    rw [List.take_length] at g3 hg
    have hb : topF f ≤ 1000 := fmax_le _ _ _ (by omega) (fun a ha => by
      rw [List.any_eq_false] at hg
      have := hg a ha
      simp [oddO] at this
      omega)
    have hb2 : -1 ≤ topF f := fmax_ge _ _
    have hr' : r = (decide (f.offs.length ≤ 5) && decide (0 ≤ f.cst) && decide (f.cst ≤ 1000) && (decide (topF f < 0) || decide (f.cst = 0) || decide (topF f + 1 < f.cst))) := by
      have : decide (topF f = -1) = decide (topF f < 0) := by rw [decide_eq_decide]; omega
      rw [hr, rightF, hg, this]; simp
    have g3' : e 3 = .i .i64 (topF f) := g3
    generalize topF f = T at *
    by_cases h1 : f.offs.length ≤ 5
    · by_cases h2 : 0 ≤ f.cst
      · by_cases h3 : f.cst ≤ 1000
        · simp +contextual (disch := omega) [Nat.add_assoc, Int.add_assoc, if_pos, if_neg, -Int.not_lt, -Int.not_le, -Nat.not_lt, -Nat.not_le, -List.length_flatMap, ref06_Right.b1, g1, y0, g4, g3', h1, h2, h3, hr']
        · simp +contextual (disch := omega) [Nat.add_assoc, Int.add_assoc, if_pos, if_neg, -Int.not_lt, -Int.not_le, -Nat.not_lt, -Nat.not_le, -List.length_flatMap, ref06_Right.b1, g1, y0, g4, g3', h1, h2, h3, hr']
      · simp +contextual (disch := omega) [Nat.add_assoc, Int.add_assoc, if_pos, if_neg, -Int.not_lt, -Int.not_le, -Nat.not_lt, -Nat.not_le, -List.length_flatMap, ref06_Right.b1, g1, y0, g4, g3', h1, h2, hr']
    · simp +contextual (disch := omega) [Nat.add_assoc, Int.add_assoc, if_pos, if_neg, -Int.not_lt, -Int.not_le, -Nat.not_lt, -Nat.not_le, -List.length_flatMap, ref06_Right.b1, g1, y0, g4, g3', h1, hr']
theorem valL_bd {P : Int} (hP : 0 ≤ P) : ∀ (ns ps : List Int) (o : Int), (∀ a ∈ ns, -1 ≤ a ∧ a ≤ 1000) → (∀ a ∈ ps, 0 ≤ a ∧ a ≤ P) → 0 ≤ o → o ≤ P + 1000 → 0 ≤ valL ns ps o ∧ valL ns ps o ≤ P + 1000
  | [], _, o, _, _, h1, h2 => by simp [valL]; exact ⟨h1, h2⟩
  | _ :: _, [], o, _, _, h1, h2 => by simp [valL]; exact ⟨h1, h2⟩
  | n :: ns, p :: ps, o, hn, hp, h1, h2 => by
    have a1 := hn n (by simp)
    have a2 := hp p (by simp)
    unfold valL
    refine valL_bd hP ns ps _ (fun a ha => hn a (by simp [ha])) (fun a ha => hp a (by simp [ha])) ?_ ?_
    · split <;> omega
    · split <;> omega
theorem valL_at {ns ps : List Int} {i : Nat} (h1 : i < ns.length) (h2 : i < ps.length) (o : Int) : valL (ns.drop i) (ps.drop i) o = valL (ns.drop (i + 1)) (ps.drop (i + 1)) (if ns[i] = -1 then o else max o (ps[i] + ns[i])) := by
  rw [List.drop_eq_getElem_cons h1, List.drop_eq_getElem_cons h2, valL]
theorem valL_end {ns ps : List Int} {i : Nat} (h1 : ns.length ≤ i) (o : Int) : valL (ns.drop i) (ps.drop i) o = o := by
  rw [List.drop_of_length_le h1]; simp [valL]
theorem flat_Value.a (f : F) (ps : List Int) (hl : f.offs.length ≤ 1000000) (hp : ps.length ≤ 1000000) : Ans ctx flat_Value.n [.ag (cF f), sV cI ps] (valueV f ps) := by
  refine ans flat_Value.f ?_
  have hR := flat_Right.a f hl
  have hC := slices_ContainsFunc_int.a ps flat_Value_1.n [] oddN rfl rfl (by simp) (fun k _ => flat_Value_1.a k) (by omega)
  unfold valueV
  cases h1 : rightF f with
  | false =>
    rw [h1] at hR
    simp +contextual (disch := omega) [Nat.add_assoc, Int.add_assoc, if_pos, if_neg, -Int.not_lt, -Int.not_le, -Nat.not_lt, -Nat.not_le, -List.length_flatMap, flat_Value.c, ansK hR]
  | true =>
    rw [h1] at hR
    obtain ⟨r1, r2, r3, r4, r5⟩ := right_F h1
    by_cases h2 : ps.length = f.offs.length
    · cases h3 : ps.any oddN with
      | true =>
        rw [h3] at hC
        simp +contextual (disch := omega) [Nat.add_assoc, Int.add_assoc, if_pos, if_neg, -Int.not_lt, -Int.not_le, -Nat.not_lt, -Nat.not_le, -List.length_flatMap, flat_Value.c, ansK hR, h2, ansK hC]
      | false =>
        rw [h3] at hC
        have hN := nats_iff.1 h3
        obtain ⟨r, hr⟩ : ∃ r, r = valL f.offs ps f.cst := ⟨_, rfl⟩
        simp +contextual (disch := omega) [Nat.add_assoc, Int.add_assoc, if_pos, if_neg, -Int.not_lt, -Int.not_le, -Nat.not_lt, -Nat.not_le, -List.length_flatMap, flat_Value.c, ansK hR, h2, ansK hC, ← hr]
        refine for_w (fun i e m x => e 1 = sV cI ps ∧ e 29 = sV cI f.offs ∧ e 30 = .i .i64 f.offs.length ∧ e 31 = .i .i64 i ∧ ∃ o : Int, e 7 = .i .i64 o ∧ 0 ≤ o ∧ o ≤ 1099511627776 + 1000 ∧ r = valL (f.offs.drop i) (ps.drop i) o) f.offs.length ?_ ?_ ?_
        · simp +contextual (disch := omega) [Nat.add_assoc, Int.add_assoc, if_pos, if_neg, -Int.not_lt, -Int.not_le, -Nat.not_lt, -Nat.not_le, -List.length_flatMap]
          exact ⟨by omega, by omega, hr⟩
        · rintro i e m x hi ⟨g1, g29, g30, g31, o, g7, o1, o2, hv⟩
          have hi2 : i < ps.length := by omega
          have b1 := r3 _ (List.getElem_mem hi)
          have b2 := hN _ (List.getElem_mem hi2)
          rw [valL_at hi hi2] at hv
          by_cases h4 : f.offs[i] = -1
          · rw [if_pos h4] at hv
            simp +contextual (disch := omega) [Nat.add_assoc, Int.add_assoc, if_pos, if_neg, -Int.not_lt, -Int.not_le, -Nat.not_lt, -Nat.not_le, -List.length_flatMap, flat_Value.b1, g1, g29, g30, g31, g7, hi, hi2, h4]
            exact ⟨o1, o2, hv⟩
          · rw [if_neg h4] at hv
            simp +contextual (disch := omega) [Nat.add_assoc, Int.add_assoc, if_pos, if_neg, -Int.not_lt, -Int.not_le, -Nat.not_lt, -Nat.not_le, -List.length_flatMap, flat_Value.b1, g1, g29, g30, g31, g7, hi, hi2, h4]
            exact ⟨by omega, by omega, hv⟩
        · rintro e m x ⟨g1, g29, g30, g31, o, g7, o1, o2, hv⟩
          rw [valL_end (Nat.le_refl _)] at hv
          simp +contextual (disch := omega) [Nat.add_assoc, Int.add_assoc, if_pos, if_neg, -Int.not_lt, -Int.not_le, -Nat.not_lt, -Nat.not_le, -List.length_flatMap, flat_Value.b1, g1, g29, g30, g31, g7, hv]
    · simp +contextual (disch := omega) [Nat.add_assoc, Int.add_assoc, if_pos, if_neg, -Int.not_lt, -Int.not_le, -Nat.not_lt, -Nat.not_le, -List.length_flatMap, flat_Value.c, ansK hR, h2]
theorem ref06_Value.a (f : F) (ps : List Int) (hl : f.offs.length ≤ 1000000) (hp : ps.length ≤ 1000000) : Ans ctx ref06_Value.n [.ag (cF f), sV cI ps] (valueV f ps) := by
  refine ans ref06_Value.f ?_
  have hR := ref06_Right.a f hl
  obtain ⟨r, hr⟩ : ∃ r, r = valueV f ps := ⟨_, rfl⟩
  have hr' := hr
  unfold valueV at hr'
  rw [← hr]
  cases h1 : rightF f with
  | false =>
    rw [h1] at hR hr'
    rw [if_pos (.inl rfl)] at hr'
    simp +contextual (disch := omega) [Nat.add_assoc, Int.add_assoc, if_pos, if_neg, -Int.not_lt, -Int.not_le, -Nat.not_lt, -Nat.not_le, -List.length_flatMap, ref06_Value.c, ansK hR, hr']
  | true =>
    rw [h1] at hR hr'
    obtain ⟨r1, r2, r3, r4, r5⟩ := right_F h1
    by_cases h2 : ps.length = f.offs.length
    · have hr1 : ps.any oddN = true → r = .tu [.i .i64 0, .i .i64 1] := fun h => by rw [hr', if_pos (.inr (.inr h))]
      have hr2 : ps.any oddN = false → r = .tu [.i .i64 (valL f.offs ps f.cst), .i .i64 0] := fun h => by rw [hr', if_neg (by simp [h, h2])]
      clear hr hr'
      simp +contextual (disch := omega) [Nat.add_assoc, Int.add_assoc, if_pos, if_neg, -Int.not_lt, -Int.not_le, -Nat.not_lt, -Nat.not_le, -List.length_flatMap, ref06_Value.c, ansK hR, h2]
      refine for_w (fun i e m x => e 1 = sV cI ps ∧ e 2 = .p 0 0 ∧ m 0 = some (.cells (cF f) false) ∧ e 7 = .i .i64 i ∧ (ps.take i).any oddN = false ∧ ∃ o : Int, e 6 = .i .i64 o ∧ 0 ≤ o ∧ o ≤ 1099511627776 + 1000 ∧ valL f.offs ps f.cst = valL (f.offs.drop i) (ps.drop i) o) ps.length ?_ ?_ ?_
      · simp +contextual (disch := omega) [Nat.add_assoc, Int.add_assoc, if_pos, if_neg, -Int.not_lt, -Int.not_le, -Nat.not_lt, -Nat.not_le, -List.length_flatMap]
        exact ⟨by omega, by omega⟩
      · rintro i e m x hi2 ⟨g1, g2, y0, g7, hg, o, g6, o1, o2, hv⟩
        have hi : i < f.offs.length := by omega
        have b1 := r3 _ (List.getElem_mem hi)
        by_cases h4 : ps[i] < 0
        · have hf := hr1 (List.any_eq_true.2 ⟨_, List.getElem_mem hi2, by simp [oddN, h4]⟩)
          simp +contextual (disch := omega) [Nat.add_assoc, Int.add_assoc, if_pos, if_neg, -Int.not_lt, -Int.not_le, -Nat.not_lt, -Nat.not_le, -List.length_flatMap, ref06_Value.b1, g1, g2, y0, g7, g6, hi, hi2, h4, hf]
        · by_cases h5 : 1099511627776 < ps[i]
          · have hf := hr1 (List.any_eq_true.2 ⟨_, List.getElem_mem hi2, by simp [oddN, h5]⟩)
            simp +contextual (disch := omega) [Nat.add_assoc, Int.add_assoc, if_pos, if_neg, -Int.not_lt, -Int.not_le, -Nat.not_lt, -Nat.not_le, -List.length_flatMap, ref06_Value.b1, g1, g2, y0, g7, g6, hi, hi2, h4, h5, hf]
          · have hg' : (ps.take (i + 1)).any oddN = false := by rw [take_any hi2, hg]; simp [oddN]; omega
            have hg2 : ∀ x, x ∈ ps.take (i + 1) → oddN x = false := fun x hx => by rw [List.any_eq_false] at hg'; simpa using hg' x hx
            rw [valL_at hi hi2] at hv
            by_cases h6 : f.offs[i] = -1
            · rw [if_pos h6] at hv
              simp +contextual (disch := omega) [Nat.add_assoc, Int.add_assoc, if_pos, if_neg, -Int.not_lt, -Int.not_le, -Nat.not_lt, -Nat.not_le, -List.length_flatMap, ref06_Value.b1, g1, g2, y0, g7, g6, hi, hi2, h4, h5, h6]
              exact ⟨hg2, o1, o2, hv⟩
            · rw [if_neg h6] at hv
              have h7 : 0 ≤ f.offs[i] := by omega
              simp +contextual (disch := omega) [Nat.add_assoc, Int.add_assoc, if_pos, if_neg, -Int.not_lt, -Int.not_le, -Nat.not_lt, -Nat.not_le, -List.length_flatMap, ref06_Value.b1, g1, g2, y0, g7, g6, hi, hi2, h4, h5, h7]
              exact ⟨hg2, by omega, by omega, hv⟩
      · rintro e m x ⟨g1, g2, y0, g7, hg, o, g6, o1, o2, hv⟩
        rw [List.take_length] at hg
        have hf := hr2 hg
        rw [hv, valL_end (by omega)] at hf
        simp +contextual (disch := omega) [Nat.add_assoc, Int.add_assoc, if_pos, if_neg, -Int.not_lt, -Int.not_le, -Nat.not_lt, -Nat.not_le, -List.length_flatMap, ref06_Value.b1, g1, g2, y0, g7, g6, hf]
    · rw [if_pos (.inr (.inl h2))] at hr'
      simp +contextual (disch := omega) [Nat.add_assoc, Int.add_assoc, if_pos, if_neg, -Int.not_lt, -Int.not_le, -Nat.not_lt, -Nat.not_le, -List.length_flatMap, ref06_Value.c, ansK hR, h2, hr']
theorem leqL_at {xs ys : List Int} {i : Nat} (h1 : i < xs.length) (h2 : i < ys.length) : leqL (xs.drop i) (ys.drop i) = (decide (xs[i] ≤ ys[i]) && leqL (xs.drop (i + 1)) (ys.drop (i + 1))) := by
  rw [List.drop_eq_getElem_cons h1, List.drop_eq_getElem_cons h2, leqL]
theorem leqL_end {xs ys : List Int} {i : Nat} (h1 : xs.length ≤ i) : leqL (xs.drop i) (ys.drop i) = true := by
  rw [List.drop_of_length_le h1]; simp [leqL]
theorem flat_Leq.a (f g : F) (hf : f.offs.length ≤ 1000000) (hg : g.offs.length ≤ 1000000) : Ans ctx flat_Leq.n [.ag (cF f), .ag (cF g)] (.b (leqF f g)) := by
  refine ans flat_Leq.f ?_
  have hR := flat_Right.a f hf
  have hR2 := flat_Right.a g hg
  have hT := flat_Top.a g hg
  obtain ⟨r, hr⟩ : ∃ r, r = leqF f g := ⟨_, rfl⟩
  have hr' := hr
  unfold leqF at hr'
  rw [← hr]
  cases h1 : rightF f with
  | false =>
    rw [h1] at hR hr'
    simp only [Bool.false_and] at hr'
    simp +contextual (disch := omega) [Nat.add_assoc, Int.add_assoc, if_pos, if_neg, -Int.not_lt, -Int.not_le, -Nat.not_lt, -Nat.not_le, -List.length_flatMap, flat_Leq.c, ansK hR, hr']
  | true =>
    cases h2 : rightF g with
    | false =>
      rw [h1] at hR hr'
      rw [h2] at hR2 hr'
      simp only [Bool.false_and, Bool.and_false] at hr'
      simp +contextual (disch := omega) [Nat.add_assoc, Int.add_assoc, if_pos, if_neg, -Int.not_lt, -Int.not_le, -Nat.not_lt, -Nat.not_le, -List.length_flatMap, flat_Leq.c, ansK hR, ansK hR2, hr']
    | true =>
      rw [h1] at hR hr'
      rw [h2] at hR2 hr'
      obtain ⟨r1, r2, r3, r4, r5⟩ := right_F h1
      obtain ⟨q1, q2, q3, q4, q5⟩ := right_F h2
      by_cases h3 : f.offs.length = g.offs.length
      · rw [decide_eq_true h3] at hr'
        simp only [Bool.true_and] at hr'
        simp +contextual (disch := omega) [Nat.add_assoc, Int.add_assoc, if_pos, if_neg, -Int.not_lt, -Int.not_le, -Nat.not_lt, -Nat.not_le, -List.length_flatMap, flat_Leq.c, ansK hR, ansK hR2, h3]
        refine for_w (fun i e m x => e 2 = .p 0 0 ∧ e 3 = .p 1 0 ∧ m 0 = some (.cells (cF f) false) ∧ m 1 = some (.cells (cF g) false) ∧ e 25 = sV cI f.offs ∧ e 26 = .i .i64 f.offs.length ∧ e 27 = .i .i64 i ∧ leqL f.offs g.offs = leqL (f.offs.drop i) (g.offs.drop i)) f.offs.length ?_ ?_ ?_
        · simp +contextual (disch := omega) [Nat.add_assoc, Int.add_assoc, if_pos, if_neg, -Int.not_lt, -Int.not_le, -Nat.not_lt, -Nat.not_le, -List.length_flatMap, h3]
        · rintro i e m x hi ⟨g2, g3, y0, y1, g25, g26, g27, hv⟩
          have hi2 : i < g.offs.length := by omega
          rw [leqL_at hi hi2] at hv
          by_cases h4 : g.offs[i] < f.offs[i]
          · have hf' : r = false := by rw [hr', hv, decide_eq_false (by omega)]; simp
            simp +contextual (disch := omega) [Nat.add_assoc, Int.add_assoc, if_pos, if_neg, -Int.not_lt, -Int.not_le, -Nat.not_lt, -Nat.not_le, -List.length_flatMap, flat_Leq.b1, g2, g3, y0, y1, g25, g26, g27, hi, hi2, h4, hf']
          · rw [decide_eq_true (by omega), Bool.true_and] at hv
            simp +contextual (disch := omega) [Nat.add_assoc, Int.add_assoc, if_pos, if_neg, -Int.not_lt, -Int.not_le, -Nat.not_lt, -Nat.not_le, -List.length_flatMap, flat_Leq.b1, g2, g3, y0, y1, g25, g26, g27, hi, hi2, h4, hv]
        · rintro e m x ⟨g2, g3, y0, y1, g25, g26, g27, hv⟩
          rw [leqL_end (Nat.le_refl _)] at hv
          rw [hv, Bool.true_and] at hr'
          simp +contextual (disch := omega) [Nat.add_assoc, Int.add_assoc, if_pos, if_neg, -Int.not_lt, -Int.not_le, -Nat.not_lt, -Nat.not_le, -List.length_flatMap, flat_Leq.b1, g2, g3, y0, y1, g25, g26, g27, ansK hT, hr']
      · rw [decide_eq_false h3] at hr'
        simp only [Bool.false_and, Bool.and_false] at hr'
        simp +contextual (disch := omega) [Nat.add_assoc, Int.add_assoc, if_pos, if_neg, -Int.not_lt, -Int.not_le, -Nat.not_lt, -Nat.not_le, -List.length_flatMap, flat_Leq.c, ansK hR, ansK hR2, h3, hr']
/-- One more than the greatest of some numbers, or another number. -/
def upL (l : List Int) (c : Int) : Int := l.foldl (fun o n => if 0 ≤ n then max o (n + 1) else o) c
theorem upL_ok (l : List Int) (c t : Int) (hc : 0 ≤ c) (ht : -1 ≤ t) (hl : ∀ a ∈ l, -1 ≤ a) : upL l (max c (t + 1)) = max c (l.foldl max t + 1) := by
  unfold upL
  induction l generalizing t with
  | nil => rfl
  | cons b l ih =>
    have hb := hl b (by simp)
    simp only [List.foldl_cons]
    rw [← ih (max t b) (by omega) (fun a ha => hl a (by simp [ha]))]
    congr 1
    split <;> omega
theorem ref06_Leq.a (f g : F) (hf : f.offs.length ≤ 1000000) (hg : g.offs.length ≤ 1000000) : Ans ctx ref06_Leq.n [.ag (cF f), .ag (cF g)] (.b (leqF f g)) := by
  refine ans ref06_Leq.f ?_
  have hR := ref06_Right.a f hf
  have hR2 := ref06_Right.a g hg
  obtain ⟨r, hr⟩ : ∃ r, r = leqF f g := ⟨_, rfl⟩
  have hr' := hr
  unfold leqF at hr'
  rw [← hr]
  cases h1 : rightF f with
  | false =>
    rw [h1] at hR hr'
    simp only [Bool.false_and] at hr'
    simp +contextual (disch := omega) [Nat.add_assoc, Int.add_assoc, if_pos, if_neg, -Int.not_lt, -Int.not_le, -Nat.not_lt, -Nat.not_le, -List.length_flatMap, ref06_Leq.c, ansK hR, hr']
  | true =>
    cases h2 : rightF g with
    | false =>
      rw [h1] at hR hr'
      rw [h2] at hR2 hr'
      simp only [Bool.false_and, Bool.and_false] at hr'
      simp +contextual (disch := omega) [Nat.add_assoc, Int.add_assoc, if_pos, if_neg, -Int.not_lt, -Int.not_le, -Nat.not_lt, -Nat.not_le, -List.length_flatMap, ref06_Leq.c, ansK hR, ansK hR2, hr']
    | true =>
      rw [h1] at hR hr'
      rw [h2] at hR2 hr'
      obtain ⟨r1, r2, r3, r4, r5⟩ := right_F h1
      obtain ⟨q1, q2, q3, q4, q5⟩ := right_F h2
      by_cases h3 : f.offs.length = g.offs.length
      · rw [decide_eq_true h3] at hr'
        simp only [Bool.true_and] at hr'
        simp +contextual (disch := omega) [Nat.add_assoc, Int.add_assoc, if_pos, if_neg, -Int.not_lt, -Int.not_le, -Nat.not_lt, -Nat.not_le, -List.length_flatMap, ref06_Leq.c, ansK hR, ansK hR2, h3]
        refine for_w (fun i e m x => e 2 = .p 0 0 ∧ e 3 = .p 1 0 ∧ m 0 = some (.cells (cF f) false) ∧ m 1 = some (.cells (cF g) false) ∧ e 5 = .i .i64 (upL (g.offs.take i) g.cst) ∧ e 6 = .i .i64 i ∧ leqL f.offs g.offs = leqL (f.offs.drop i) (g.offs.drop i)) f.offs.length ?_ ?_ ?_
        · simp +contextual (disch := omega) [Nat.add_assoc, Int.add_assoc, if_pos, if_neg, -Int.not_lt, -Int.not_le, -Nat.not_lt, -Nat.not_le, -List.length_flatMap, upL]
        · rintro i e m x hi ⟨g2, g3, y0, y1, g5, g6, hv⟩
          have hi2 : i < g.offs.length := by omega
          have b1 := q3 _ (List.getElem_mem hi2)
          rw [leqL_at hi hi2] at hv
          by_cases h4 : g.offs[i] < f.offs[i]
          · have hf' : r = false := by rw [hr', hv, decide_eq_false (by omega)]; simp
            simp +contextual (disch := omega) [Nat.add_assoc, Int.add_assoc, if_pos, if_neg, -Int.not_lt, -Int.not_le, -Nat.not_lt, -Nat.not_le, -List.length_flatMap, ref06_Leq.b1, g2, g3, y0, y1, g5, g6, hi, hi2, h4, hf']
          · rw [decide_eq_true (by omega), Bool.true_and] at hv
            have hu : upL (g.offs.take (i + 1)) g.cst = if 0 ≤ g.offs[i] then max (upL (g.offs.take i) g.cst) (g.offs[i] + 1) else upL (g.offs.take i) g.cst := by unfold upL; rw [take_fold hi2]
            by_cases h5 : 0 ≤ g.offs[i]
            · rw [if_pos h5] at hu
              simp +contextual (disch := omega) [Nat.add_assoc, Int.add_assoc, if_pos, if_neg, -Int.not_lt, -Int.not_le, -Nat.not_lt, -Nat.not_le, -List.length_flatMap, ref06_Leq.b1, g2, g3, y0, y1, g5, g6, hi, hi2, h4, h5, hv, hu]
            · rw [if_neg h5] at hu
              simp +contextual (disch := omega) [Nat.add_assoc, Int.add_assoc, if_pos, if_neg, -Int.not_lt, -Int.not_le, -Nat.not_lt, -Nat.not_le, -List.length_flatMap, ref06_Leq.b1, g2, g3, y0, y1, g5, g6, hi, hi2, h4, h5, hv, hu]
        · rintro e m x ⟨g2, g3, y0, y1, g5, g6, hv⟩
          rw [leqL_end (Nat.le_refl _)] at hv
          have hu := upL_ok g.offs g.cst (-1) q2.1 (by omega) (fun a ha => (q3 a ha).1)
          rw [(by omega : max g.cst (-1 + 1) = g.cst)] at hu
          rw [h3, List.take_length, hu] at g5
          rw [hv, Bool.true_and] at hr'
          have hr2 : r = decide (f.cst ≤ max g.cst (g.offs.foldl max (-1) + 1)) := hr'
          simp +contextual (disch := omega) [Nat.add_assoc, Int.add_assoc, if_pos, if_neg, -Int.not_lt, -Int.not_le, -Nat.not_lt, -Nat.not_le, -List.length_flatMap, ref06_Leq.b1, g2, g3, y0, y1, g5, g6, hr2]
      · rw [decide_eq_false h3] at hr'
        simp only [Bool.false_and, Bool.and_false] at hr'
        simp +contextual (disch := omega) [Nat.add_assoc, Int.add_assoc, if_pos, if_neg, -Int.not_lt, -Int.not_le, -Nat.not_lt, -Nat.not_le, -List.length_flatMap, ref06_Leq.c, ansK hR, ansK hR2, h3, hr']
theorem ref06_Same.a (f g : F) (hf : f.offs.length ≤ 1000000) : Ans ctx ref06_Same.n [.ag (cF f), .ag (cF g)] (.b (decide (f = g))) := by
  refine ans ref06_Same.f ?_
  have hne : (f.cst ≠ g.cst ∨ f.offs.length ≠ g.offs.length ∨ f.offs ≠ g.offs) → decide (f = g) = false := by
    intro h
    rw [decide_eq_false_iff_not]
    rintro rfl
    rcases h with h | h | h <;> exact h rfl
  by_cases h1 : f.cst = g.cst
  · by_cases h2 : f.offs.length = g.offs.length
    · simp +contextual (disch := omega) [Nat.add_assoc, Int.add_assoc, if_pos, if_neg, -Int.not_lt, -Int.not_le, -Nat.not_lt, -Nat.not_le, -List.length_flatMap, ref06_Same.c, h1, h2]
      refine for_w (fun i e m x => e 2 = .p 0 0 ∧ e 3 = .p 1 0 ∧ m 0 = some (.cells (cF f) false) ∧ m 1 = some (.cells (cF g) false) ∧ e 5 = .i .i64 i ∧ f.offs.take i = g.offs.take i) f.offs.length ?_ ?_ ?_
      · simp +contextual (disch := omega) [Nat.add_assoc, Int.add_assoc, if_pos, if_neg, -Int.not_lt, -Int.not_le, -Nat.not_lt, -Nat.not_le, -List.length_flatMap]
      · rintro i e m x hi ⟨g2, g3, y0, y1, g5, ht⟩
        have hi2 : i < g.offs.length := by omega
        by_cases h4 : f.offs[i] = g.offs[i]
        · have : f.offs.take (i + 1) = g.offs.take (i + 1) := by rw [List.take_succ_eq_append_getElem hi, List.take_succ_eq_append_getElem hi2, ht, h4]
          simp +contextual (disch := omega) [Nat.add_assoc, Int.add_assoc, if_pos, if_neg, -Int.not_lt, -Int.not_le, -Nat.not_lt, -Nat.not_le, -List.length_flatMap, ref06_Same.b1, g2, g3, y0, y1, g5, hi, hi2, h4, this]
        · have hz := hne (.inr (.inr fun e => h4 (by simp only [e])))
          simp +contextual (disch := omega) [Nat.add_assoc, Int.add_assoc, if_pos, if_neg, -Int.not_lt, -Int.not_le, -Nat.not_lt, -Nat.not_le, -List.length_flatMap, ref06_Same.b1, g2, g3, y0, y1, g5, hi, hi2, h4, hz]
      · rintro e m x ⟨g2, g3, y0, y1, g5, ht⟩
        rw [List.take_length, h2, List.take_length] at ht
        have : f = g := by
          cases f; cases g
          simp only at h1 ht
          rw [h1, ht]
        simp +contextual (disch := omega) [Nat.add_assoc, Int.add_assoc, if_pos, if_neg, -Int.not_lt, -Int.not_le, -Nat.not_lt, -Nat.not_le, -List.length_flatMap, ref06_Same.b1, g2, g3, y0, y1, g5, this]
    · simp +contextual (disch := omega) [Nat.add_assoc, Int.add_assoc, if_pos, if_neg, -Int.not_lt, -Int.not_le, -Nat.not_lt, -Nat.not_le, -List.length_flatMap, ref06_Same.c, h1, h2, hne (.inr (.inl h2))]
  · simp +contextual (disch := omega) [Nat.add_assoc, Int.add_assoc, if_pos, if_neg, -Int.not_lt, -Int.not_le, -Nat.not_lt, -Nat.not_le, -List.length_flatMap, ref06_Same.c, h1, hne (.inl h1)]
end Pi
