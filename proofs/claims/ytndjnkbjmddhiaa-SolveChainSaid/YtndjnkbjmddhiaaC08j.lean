/- Laws of layer 8: clauses by numbers; the lesser of two models. -/
import Derived.Test.YtndjnkbjmddhiaaC08i
set_option linter.unusedSimpArgs false
set_option linter.unusedVariables false
namespace Pi
theorem made_ok (n : Nat) (l : List Nat) : ∀ c ∈ madeC n l, okC (varsB n) c = true := (right_ok (madeC_right n l)).2.2.2
theorem made_len (n : Nat) (l : List Nat) : (madeC n l).length ≤ 30 := madeB_len _ _ _
theorem made_six (n : Nat) (l : List Nat) : ∀ c ∈ madeC n l, c.frm.length ≤ 9223372036854775807 := fun c hc => Nat.le_trans (okC_six (made_ok n l c hc)) (by omega)
theorem varsB_bd (n : Nat) : 1 ≤ varsB n ∧ varsB n ≤ 8 := by unfold varsB; omega
theorem modelB_nats (n : Nat) (l : List Nat) : Nats (modelB n l) := by
  intro a ha
  obtain ⟨i, hi, rfl⟩ := List.mem_iff_getElem.1 ha
  have := modelB_bd n l i
  rw [getD_get _ _ hi] at this
  omega
theorem law08_HornMade.a (n : Nat) (hn : n < 256) (l v : List Nat) (hb : Byt l) (hl : l.length ≤ 9223372036854775807) (hbv : Byt v) (hlv : v.length ≤ 9223372036854775807) : Ans ctx law08_HornMade.n [.i .u8 n, sV cU l, sV cU v] (.b true) := by
  refine ans law08_HornMade.f ?_
  have h1 := made_len n l
  have h2 := modelB_len n v
  have h3 := varsB_bd n
  simp +contextual (disch := omega) [Nat.add_assoc, Int.add_assoc, if_pos, if_neg, -Int.not_lt, -Int.not_le, -Nat.not_lt, -Nat.not_le, -List.length_flatMap, law08_HornMade.c, ansK law08_awake.a, ansK (law08_Vars.a n hn), ansK (law08_Made.a n hn l hb hl), ansK (law08_Model.a n hn v hbv hlv), ansK (law08_told.a _ (madeC n l) (modelB n v) (by omega) (made_six n l) (by omega))]
theorem places_mem {α : Type} {p : α → Bool} {l : List α} {i : Nat} (h : i < l.length) : (i : Int) ∈ placesS p l ↔ p l[i] = true := by
  unfold placesS
  simp only [List.mem_map, List.mem_filter]
  constructor
  · rintro ⟨⟨a, j⟩, ⟨h1, h2⟩, h3⟩
    have hj : j = i := by have : (j : Int) = i := h3; omega
    subst hj
    have := List.mem_zipIdx_iff_getElem?.1 h1
    simp only at this
    rw [List.getElem?_eq_getElem h] at this
    cases this
    exact h2
  · intro hp
    exact ⟨(l[i], i), ⟨List.mem_zipIdx_iff_getElem?.2 (by simp [h]), hp⟩, rfl⟩
theorem places_filter {α : Type} {p q : α → Bool} : ∀ {l : List α}, (∀ a ∈ l, p a = q a) → placesS p l = placesS q l := by
  intro l h
  unfold placesS
  congr 1
  apply List.filter_congr
  rintro ⟨a, i⟩ ha
  exact h a (List.fst_mem_of_mem_zipIdx ha)
theorem range_set {n i : Nat} {f g h : Nat → Int} (hi : i < n) : ((List.range n).map fun j => if j < i + 1 then f j else g j) = ((List.range n).map fun j => if j < i then f j else g j).set i (f i) := by
  apply List.ext_getElem
  · simp
  · intro j h1 h2
    simp only [List.getElem_set, List.getElem_map, List.getElem_range]
    by_cases hj : i = j
    · subst hj; simp
    · rw [if_neg hj]
      by_cases hlt : j < i
      · rw [if_pos hlt, if_pos (by omega)]
      · rw [if_neg hlt, if_neg (by omega)]
theorem modelB_self (n : Nat) (v : List Nat) : (List.range (varsB n)).map (fun j => (modelB n v).getD j 0) = modelB n v := by
  apply List.ext_getElem
  · simp [modelB_len]
  · intro j h1 h2
    simp only [List.getElem_map, List.getElem_range]
    exact getD_get _ _ h2
def mixL (N : Nat) (f g : Nat → Int) (i : Nat) : List Int := (List.range N).map fun j => if j < i then f j else g j
theorem mixL_len (N : Nat) (f g : Nat → Int) (i : Nat) : (mixL N f g i).length = N := by simp [mixL]
theorem mixL_s {N i : Nat} {f g : Nat → Int} (hi : i < N) : mixL N f g (i + 1) = (mixL N f g i).set i (f i) := range_set (h := g) hi
theorem mixL_e {N : Nat} {f g : Nat → Int} {j : Nat} (hj : j < N) : (mixL N f g N).getD j 0 = f j := by simp [mixL, hj]
set_option maxRecDepth 20000 in
theorem law08_HornLesser.a (n : Nat) (hn : n < 256) (l v w : List Nat) (hb : Byt l) (hl : l.length ≤ 9223372036854775807) (hbv : Byt v) (hlv : v.length ≤ 9223372036854775807) (hbw : Byt w) (hlw : w.length ≤ 9223372036854775807) (k : Nat) (hk : k < 256) :
    Ans ctx law08_HornLesser.n [.i .u8 n, sV cU l, sV cU v, sV cU w, .i .u8 k] (.b true) := by
  refine ans law08_HornLesser.f ?_
  have h1 := made_len n l
  have h2 := modelB_len n v
  have h2w := modelB_len n w
  have h3 := varsB_bd n
  have hC := made_ok n l
  have hR := madeC_right n l
  have hS := made_six n l
  have hA := modelB_nats n v
  have hB := modelB_nats n w
  have hx := horn_Broken.a (madeC n l) (modelB n v) (by omega) hS (by omega)
  have hy := horn_Broken.a (madeC n l) (modelB n w) (by omega) hS (by omega)
  have br : ∀ (m : List Int) (c : List C), rightC m.length c = true → Nats m → brokenS c m = .tu [sV cI (placesS (brokenC m) c), .i .i64 0] := by
    intro m c q1 q2
    unfold brokenS
    rw [if_neg]
    rintro (h | h)
    · rw [q1] at h; cases h
    · rw [nats_iff.2 q2] at h; cases h
  rw [br _ _ (by rw [h2]; exact hR) hA] at hx
  rw [br _ _ (by rw [h2w]; exact hR) hB] at hy
  have hma := law08_Made.a n hn l hb hl
  have hmv := law08_Model.a n hn v hbv hlv
  have hmw := law08_Model.a n hn w hbw hlw
  have ea : ∀ j, j < varsB n → (modelB n v)[j]? = some ((modelB n v).getD j 0) := fun j hj => get_at _ _ (by omega)
  have eb : ∀ j, j < varsB n → (modelB n w)[j]? = some ((modelB n w).getD j 0) := fun j hj => get_at _ _ (by omega)
  have ba := modelB_bd n v
  have bb := modelB_bd n w
  have self := modelB_self n v
  generalize hc : madeC n l = c at *
  generalize ha : modelB n v = a at *
  generalize hb' : modelB n w = b at *
  have lx := placesS_len (brokenC a) c
  have ly := placesS_len (brokenC b) c
  have mx : ∀ i (hi : i < c.length), (i : Int) ∈ placesS (brokenC a) c ↔ brokenC a c[i] = true := fun i hi => places_mem hi
  have my : ∀ i (hi : i < c.length), (i : Int) ∈ placesS (brokenC b) c ↔ brokenC b c[i] = true := fun i hi => places_mem hi
  generalize hX : placesS (brokenC a) c = X at *
  generalize hY : placesS (brokenC b) c = Y at *
  simp +contextual (disch := omega) [Nat.add_assoc, Int.add_assoc, if_pos, if_neg, -Int.not_lt, -Int.not_le, -Nat.not_lt, -Nat.not_le, -List.length_flatMap, law08_HornLesser.c, ansK law08_awake.a, ansK hma, ansK hmv, ansK hmw, ansK hx, ansK hy]
  refine for_w (fun i e m x => e 4 = .i .u8 k ∧ e 11 = .b true ∧ e 12 = sV cC c ∧ e 13 = sV cI a ∧ e 14 = sV cI b ∧ e 15 = sV cI X ∧ e 17 = sV cI Y ∧ e 20 = .i .i64 i ∧ Bf m (e 19) cC 3 ((c.take i).filter fun q => !brokenC a q && !brokenC b q) 0 x) c.length ?_ ?_ ?_
  · simp +contextual (disch := omega) [Nat.add_assoc, Int.add_assoc, if_pos, if_neg, -Int.not_lt, -Int.not_le, -Nat.not_lt, -Nat.not_le, -List.length_flatMap, Bf.nil]
  · rintro i e m x hi ⟨g1, g2, g3, g4, g5, g6, g7, g8, g9⟩
    have hne : a ≠ [] := by intro h; rw [h] at h2; simp at h2; omega
    simp +contextual (disch := omega) [Nat.add_assoc, Int.add_assoc, if_pos, if_neg, -Int.not_lt, -Int.not_le, -Nat.not_lt, -Nat.not_le, -List.length_flatMap, law08_HornLesser.b3, g1, g2, g3, g4, g5, g6, g7, g8]
    refine for_w (fun q e m x => e 4 = .i .u8 k ∧ e 11 = .b true ∧ e 12 = sV cC c ∧ e 13 = sV cI a ∧ e 14 = sV cI b ∧ e 15 = sV cI X ∧ e 17 = sV cI Y ∧ e 20 = .i .i64 i ∧ e 22 = .i .i64 q ∧ e 21 = .b (!(X.take q).any fun z => decide (z = (i : Int))) ∧ Bf m (e 19) cC 3 ((c.take i).filter fun q => !brokenC a q && !brokenC b q) 0 x) X.length ?_ ?_ ?_
    · simp +contextual (disch := omega) [Nat.add_assoc, Int.add_assoc, if_pos, if_neg, -Int.not_lt, -Int.not_le, -Nat.not_lt, -Nat.not_le, -List.length_flatMap, g1, g2, g3, g4, g5, g6, g7, g8]
      exact g9.up (by omega) (by simp +contextual (disch := omega) [Nat.add_assoc, Int.add_assoc, if_pos, if_neg, -Int.not_lt, -Int.not_le, -Nat.not_lt, -Nat.not_le, -List.length_flatMap])
    · rintro q e m x hq ⟨p1, p2, p3, p4, p5, p6, p7, p8, p9, p10, p11⟩
      rw [take_any hq]
      cases hz : (X.take q).any fun z => decide (z = (i : Int))
      all_goals (rw [hz] at p10)
      all_goals (simp +contextual (disch := omega) [Nat.add_assoc, Int.add_assoc, if_pos, if_neg, -Int.not_lt, -Int.not_le, -Nat.not_lt, -Nat.not_le, -List.length_flatMap, law08_HornLesser.b1, p1, p2, p3, p4, p5, p6, p7, p8, p9, p10, hq])
      all_goals (try refine ⟨by by_cases hh : X[q] = (i : Int) <;> simp [hh], ?_⟩)
      all_goals exact p11.up (by omega) (by simp +contextual (disch := omega) [Nat.add_assoc, Int.add_assoc, if_pos, if_neg, -Int.not_lt, -Int.not_le, -Nat.not_lt, -Nat.not_le, -List.length_flatMap])
    · rintro e m x ⟨p1, p2, p3, p4, p5, p6, p7, p8, p9, p10, p11⟩
      have e1 : (X.any fun z => decide (z = (i : Int))) = brokenC a c[i] := by
        rw [Bool.eq_iff_iff, ← mx i hi, List.any_eq_true]
        simp
      rw [List.take_length, e1] at p10
      simp +contextual (disch := omega) [Nat.add_assoc, Int.add_assoc, if_pos, if_neg, -Int.not_lt, -Int.not_le, -Nat.not_lt, -Nat.not_le, -List.length_flatMap, law08_HornLesser.b1, p1, p2, p3, p4, p5, p6, p7, p8, p9, p10]
      refine for_w (fun q e m x => e 4 = .i .u8 k ∧ e 11 = .b true ∧ e 12 = sV cC c ∧ e 13 = sV cI a ∧ e 14 = sV cI b ∧ e 15 = sV cI X ∧ e 17 = sV cI Y ∧ e 20 = .i .i64 i ∧ e 23 = .i .i64 q ∧ e 21 = .b (!brokenC a c[i] && !(Y.take q).any fun z => decide (z = (i : Int))) ∧ Bf m (e 19) cC 3 ((c.take i).filter fun q => !brokenC a q && !brokenC b q) 0 x) Y.length ?_ ?_ ?_
      · simp +contextual (disch := omega) [Nat.add_assoc, Int.add_assoc, if_pos, if_neg, -Int.not_lt, -Int.not_le, -Nat.not_lt, -Nat.not_le, -List.length_flatMap, p1, p2, p3, p4, p5, p6, p7, p8, p10]
        exact p11.up (by omega) (by simp +contextual (disch := omega) [Nat.add_assoc, Int.add_assoc, if_pos, if_neg, -Int.not_lt, -Int.not_le, -Nat.not_lt, -Nat.not_le, -List.length_flatMap])
      · rintro q e m x hq ⟨o1, o2, o3, o4, o5, o6, o7, o8, o9, o10, o11⟩
        rw [take_any hq]
        have ee : ∀ u v z : Bool, (!u && !(v || z)) = ((!u && !v) && !z) := by decide
        rw [ee]
        cases hz : !brokenC a c[i] && !(Y.take q).any fun z => decide (z = (i : Int))
        all_goals (rw [hz] at o10)
        all_goals (simp +contextual (disch := omega) [Nat.add_assoc, Int.add_assoc, if_pos, if_neg, -Int.not_lt, -Int.not_le, -Nat.not_lt, -Nat.not_le, -List.length_flatMap, law08_HornLesser.b2, o1, o2, o3, o4, o5, o6, o7, o8, o9, o10, hq])
        all_goals (try refine ⟨by by_cases hh : Y[q] = (i : Int) <;> simp [hh], ?_⟩)
        all_goals exact o11.up (by omega) (by simp +contextual (disch := omega) [Nat.add_assoc, Int.add_assoc, if_pos, if_neg, -Int.not_lt, -Int.not_le, -Nat.not_lt, -Nat.not_le, -List.length_flatMap])
      · rintro e m x ⟨o1, o2, o3, o4, o5, o6, o7, o8, o9, o10, o11⟩
        have e2 : (Y.any fun z => decide (z = (i : Int))) = brokenC b c[i] := by
          rw [Bool.eq_iff_iff, ← my i hi, List.any_eq_true]
          simp
        rw [List.take_length, e2] at o10
        have et : (c.take (i + 1)).filter (fun q => !brokenC a q && !brokenC b q) = (c.take i).filter (fun q => !brokenC a q && !brokenC b q) ++ if !brokenC a c[i] && !brokenC b c[i] then [c[i]] else [] := by
          rw [List.take_succ_eq_append_getElem hi, List.filter_append]
          congr 1
          by_cases hh : (!brokenC a c[i] && !brokenC b c[i]) = true
          · rw [if_pos hh]; simp [hh]
          · rw [if_neg hh]; simp [hh]
        have hfl : ((c.take i).filter fun q => !brokenC a q && !brokenC b q).length ≤ 30 := by
          have := List.length_filter_le (fun q => !brokenC a q && !brokenC b q) (c.take i)
          rw [List.length_take] at this
          omega
        cases hz : !brokenC a c[i] && !brokenC b c[i]
        · rw [hz] at o10
          simp only [hz, Bool.false_eq_true, if_false, List.append_nil] at et
          simp +contextual (disch := omega) [Nat.add_assoc, Int.add_assoc, if_pos, if_neg, -Int.not_lt, -Int.not_le, -Nat.not_lt, -Nat.not_le, -List.length_flatMap, law08_HornLesser.b2, o1, o2, o3, o4, o5, o6, o7, o8, o9, o10, et]
          exact o11.up (by omega) (by simp +contextual (disch := omega) [Nat.add_assoc, Int.add_assoc, if_pos, if_neg, -Int.not_lt, -Int.not_le, -Nat.not_lt, -Nat.not_le, -List.length_flatMap])
        · rw [hz] at o10
          simp only [hz, if_true] at et
          simp +contextual (disch := omega) [Nat.add_assoc, Int.add_assoc, if_pos, if_neg, -Int.not_lt, -Int.not_le, -Nat.not_lt, -Nat.not_le, -List.length_flatMap, law08_HornLesser.b2, o1, o2, o3, o4, o5, o6, o7, o8, o9, o10, hi]
          refine o11.ap [c[i]] (by simp +contextual (disch := omega) [Nat.add_assoc, Int.add_assoc, if_pos, if_neg, -Int.not_lt, -Int.not_le, -Nat.not_lt, -Nat.not_le, -List.length_flatMap]) (by omega) (by omega) (by simp) rfl (by simp; omega) ?_
          intro B' ws m2 u0 u1 u2 u3
          simp +contextual (disch := omega) [Nat.add_assoc, Int.add_assoc, if_pos, if_neg, -Int.not_lt, -Int.not_le, -Nat.not_lt, -Nat.not_le, -List.length_flatMap, u0, o1, o2, o3, o4, o5, o6, o7, o8]
          exact u1.to et.symm (by omega)
  · rintro e m x ⟨g1, g2, g3, g4, g5, g6, g7, g8, g9⟩
    rw [List.take_length] at g9
    have hne : a ≠ [] := by intro h; rw [h] at h2; simp at h2; omega
    generalize hO : c.filter (fun q => !brokenC a q && !brokenC b q) = o at g9
    simp +contextual (disch := omega) [Nat.add_assoc, Int.add_assoc, if_pos, if_neg, -Int.not_lt, -Int.not_le, -Nat.not_lt, -Nat.not_le, -List.length_flatMap, law08_HornLesser.b3, g1, g2, g3, g4, g5, g6, g7, g8, hne]
    generalize hN : varsB n = N at *
    have hbl : b.length = N := h2w
    refine for_w (fun i e m' x' => e 4 = .i .u8 k ∧ e 11 = .b true ∧ e 12 = sV cC c ∧ e 13 = sV cI a ∧ e 14 = sV cI b ∧ e 15 = sV cI X ∧ e 24 = .ms (x + 5) 0 N 1 ∧ e 25 = .ms (x + 7) 0 N 1 ∧ e 26 = .i .i64 i ∧
      m' (x + 5) = some (.cells ((mixL N (fun j => min (a.getD j 0) (b.getD j 0)) (fun j => a.getD j 0) i).flatMap cI) false) ∧ m' (x + 7) = some (.cells ((mixL N (fun j => a.getD j 0 + k) (fun j => a.getD j 0) i).flatMap cI) false) ∧ Bf m' (e 19) cC 3 o 0 x ∧ x + 8 ≤ x') N ?_ ?_ ?_
    · have z1 : ∀ f, mixL N f (fun j => a.getD j 0) 0 = a := by intro f; unfold mixL; simpa using self
      simp +contextual (disch := omega) [Nat.add_assoc, Int.add_assoc, if_pos, if_neg, -Int.not_lt, -Int.not_le, -Nat.not_lt, -Nat.not_le, -List.length_flatMap, g1, g2, g3, g4, g5, g6, h2]
      exact ⟨(congrArg (List.flatMap cI) (z1 _)).symm, (congrArg (List.flatMap cI) (z1 _)).symm, g9.up (by omega) (by simp +contextual (disch := omega) [Nat.add_assoc, Int.add_assoc, if_pos, if_neg, -Int.not_lt, -Int.not_le, -Nat.not_lt, -Nat.not_le, -List.length_flatMap])⟩
    · rintro i e m' x' hi ⟨q1, q2, q3, q4, q5, q6, q7, q8, q9, q10, q11, q12, q13⟩
      have ha1 := getD_get a 0 (by omega : i < a.length)
      have hb1 := getD_get b 0 (by omega : i < b.length)
      have ba1 := ba i
      have bb1 := bb i
      rw [ha1] at ba1
      rw [hb1] at bb1
      have s1 := mixL_s (f := fun j => min (a.getD j 0) (b.getD j 0)) (g := fun j => a.getD j 0) hi
      have s2 := mixL_s (f := fun j => a.getD j 0 + (k : Int)) (g := fun j => a.getD j 0) hi
      have n1 := mixL_len N (fun j => min (a.getD j 0) (b.getD j 0)) (fun j => a.getD j 0) i
      have n2 := mixL_len N (fun j => a.getD j 0 + (k : Int)) (fun j => a.getD j 0) i
      simp only [ha1, hb1] at s1 s2
      rw [s1, s2]
      generalize mixL N (fun j => min (a.getD j 0) (b.getD j 0)) (fun j => a.getD j 0) i = L1 at *
      generalize mixL N (fun j => a.getD j 0 + (k : Int)) (fun j => a.getD j 0) i = L2 at *
      have hia : i < a.length := by omega
      have hib : i < b.length := by omega
      simp +contextual (disch := omega) [Nat.add_assoc, Int.add_assoc, if_pos, if_neg, -Int.not_lt, -Int.not_le, -Nat.not_lt, -Nat.not_le, -List.length_flatMap, law08_HornLesser.b4, q1, q2, q3, q4, q5, q6, q7, q8, q9, q10, q11, hia, hib, n1, n2]
      refine ⟨flatI_set (by omega), flatI_set (by omega), q12.up (Nat.le_refl _) (by simp +contextual (disch := omega) [Nat.add_assoc, Int.add_assoc, if_pos, if_neg, -Int.not_lt, -Int.not_le, -Nat.not_lt, -Nat.not_le, -List.length_flatMap]), by omega⟩
    · rintro e m' x' ⟨q1, q2, q3, q4, q5, q6, q7, q8, q9, q10, q11, q12, q13⟩
      have n1 := mixL_len N (fun j => min (a.getD j 0) (b.getD j 0)) (fun j => a.getD j 0) N
      have n2 := mixL_len N (fun j => a.getD j 0 + (k : Int)) (fun j => a.getD j 0) N
      have e1 : ∀ j, j < N → (mixL N (fun j => min (a.getD j 0) (b.getD j 0)) (fun j => a.getD j 0) N).getD j 0 = min (a.getD j 0) (b.getD j 0) := fun j hj => mixL_e hj
      have e2 : ∀ j, j < N → (mixL N (fun j => a.getD j 0 + (k : Int)) (fun j => a.getD j 0) N).getD j 0 = a.getD j 0 + k := fun j hj => mixL_e hj
      generalize mixL N (fun j => min (a.getD j 0) (b.getD j 0)) (fun j => a.getD j 0) N = L1 at *
      generalize mixL N (fun j => a.getD j 0 + (k : Int)) (fun j => a.getD j 0) N = L2 at *
      have t1 : Nats L1 := by
        intro z hz
        obtain ⟨j, hj, rfl⟩ := List.mem_iff_getElem.1 hz
        have := e1 j (by omega)
        rw [getD_get _ _ hj] at this
        have := ba j
        have := bb j
        omega
      have t2 : Nats L2 := by
        intro z hz
        obtain ⟨j, hj, rfl⟩ := List.mem_iff_getElem.1 hz
        have := e2 j (by omega)
        rw [getD_get _ _ hj] at this
        have := ba j
        omega
      have oc : ∀ q ∈ o, q ∈ c ∧ brokenC a q = false ∧ brokenC b q = false := by
        intro q hq
        rw [← hO, List.mem_filter] at hq
        simpa using hq
      have ol : o.length ≤ 30 := by
        have := List.length_filter_le (fun q => !brokenC a q && !brokenC b q) c
        rw [hO] at this
        omega
      have oR : rightC L1.length o = true := by
        rw [n1]
        simp only [rightC, Bool.and_eq_true, decide_eq_true_eq, List.all_eq_true]
        exact ⟨⟨⟨by omega, by omega⟩, by omega⟩, fun q hq => hC q (oc q hq).1⟩
      have p1 : placesS (brokenC L1) o = [] := places_none fun q hq => broken_less (vars := N) a b L1 q (hC q (oc q hq).1) (oc q hq).2.1 (oc q hq).2.2 e1
      have p2 : placesS (brokenC L2) c = X := by rw [← hX]; exact places_filter fun q hq => broken_up (vars := N) a L2 q k (hC q hq) e2
      have f1 := horn_Broken.a o L1 (by omega) (fun q hq => hS q (oc q hq).1) (by omega)
      have f2 := horn_Broken.a c L2 (by omega) hS (by omega)
      rw [br _ _ oR t1, p1] at f1
      rw [br _ _ (by rw [n2]; exact hR) t2, p2] at f2
      have z0 := q12.fz24
      have z1 := (Bf.mem (f := cI) (k := 1) (lo := x + 5) (x := x') (n := N) q10 rfl n1.symm (by omega) (by omega)).fz24
      have z2 := (Bf.mem (f := cI) (k := 1) (lo := x + 5) (x := x') (n := N) q11 rfl n2.symm (by omega) (by omega)).fz24
      generalize V.ms (x + 5) 0 N 1 = B1 at *
      generalize V.ms (x + 7) 0 N 1 = B2 at *
      simp +contextual (disch := omega) [Nat.add_assoc, Int.add_assoc, if_pos, if_neg, -Int.not_lt, -Int.not_le, -Nat.not_lt, -Nat.not_le, -List.length_flatMap, law08_HornLesser.b4, q1, q2, q3, q4, q5, q6, q7, q8, q9, h2, z0, z1, z2, ansK f1, ansK f2, ansK (ref08_Ints.a X X (by omega))]
end Pi
