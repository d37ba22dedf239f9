/- Laws of layer 6: Flatten and Value tell what the level is. -/
import Derived.Test.YtjaoacpemboakaaC06h
import Derived.Test.YtjaoacpemboakaaC06j
set_option linter.unusedSimpArgs false
set_option linter.unusedVariables false
namespace Pi
theorem valueV_ok {f : F} {p : List Int} (h1 : rightF f = true) (h2 : p.length = f.offs.length) (h3 : Nats p) : valueV f p = .tu [.i .i64 (vF f p), .i .i64 0] := by
  unfold valueV
  rw [if_neg]
  · rfl
  · rw [h1, nats_iff.2 h3]
    simp [h2]
set_option maxRecDepth 20000 in
set_option maxHeartbeats 1000000 in
theorem law06_FlatIs.a (l v : List Nat) (hl : Byt l) (hv : Byt v) (ll : l.length ≤ 9223372036854775807) (lv : v.length ≤ 9223372036854775807) (z : Nat) (hz : z < 256) :
    Ans ctx law06_FlatIs.n [sV cU l, .i .u8 z, sV cU v] (.b true) := by
  refine ans law06_FlatIs.f ?_
  have q1 : Ans ctx law02_Made.n [sV cU l, .i .i64 4, .i .i64 0] (.ag (cL (madeS l 4 0))) := law02_Made.a l hl 4 0 (by omega) (by omega)
  have oa := madeS_ok l 4 0 (by omega) (by omega)
  have hR4 := madeR l
  obtain ⟨ea, la⟩ := flat_made l (caseB z) rfl
  have hC := law06_Case.a z hz
  have h2 := flat_Flatten.a (madeS l 4 0) oa (caseB z) (by simp [caseB])
  rw [ea] at h2
  have hZl : (caseB z).length = 4 := rfl
  obtain ⟨_, hr⟩ := RightS_ok (q := 0) hR4
  have hr' : rightS (madeS l 4 0) (caseB z).length 0 12 = true := by rw [hZl]; exact hr
  have hfr := flatten_right (by omega) (by omega) hr'
  have hfv := fun p => flatten_val (p := p) hr'
  generalize madeS l 4 0 = A at *
  generalize caseB z = Z at *
  generalize flattenF A Z = X at *
  simp +contextual (disch := omega) [Nat.add_assoc, Int.add_assoc, if_pos, if_neg, -Int.not_lt, -Int.not_le, -Nat.not_lt, -Nat.not_le, -List.length_flatMap, law06_FlatIs.c, ansK law06_awake.a, ansK q1, ansK hC]
  rw [CallX_op (by rfl)]
  refine openg_w rfl rfl (.inl rfl) ?_
  have hfvv : ctx.frz law02_Values.n = false := rfl
  rw [hfvv]
  refine law02_Values.w v hv lv 4 (by omega) ?_
  intro m1 x1 hx1 hmv hm1
  have hvl := valuesS_len v 4
  have hvn := valuesS_nats v 4
  have hvs : ∀ j, 0 ≤ (valuesS v 4).getD j 0 ∧ (valuesS v 4).getD j 0 ≤ 1000 := fun j => by
    by_cases h : j < 4
    · simp [valuesS, h]; omega
    · simp [valuesS, List.getElem?_eq_none (by simpa using h : (List.range 4).length ≤ j)]
  generalize valuesS v 4 = P at *
  have y5 : m1 5 = some (.cells (cL A) false) := by rw [hm1 5 (by omega)]; simp +contextual (disch := omega) [Nat.add_assoc, Int.add_assoc, if_pos, if_neg, -Int.not_lt, -Int.not_le, -Nat.not_lt, -Nat.not_le, -List.length_flatMap]
  simp +contextual (disch := omega) [Nat.add_assoc, Int.add_assoc, if_pos, if_neg, -Int.not_lt, -Int.not_le, -Nat.not_lt, -Nat.not_le, -List.length_flatMap]
  refine for_w (fun i e m x => e 7 = .b true ∧ e 8 = .p 5 0 ∧ e 9 = sV cB Z ∧ e 10 = .ms 12 0 4 1 ∧ e 11 = .i .i64 i ∧ 13 ≤ x ∧ m 5 = some (.cells (cL A) false) ∧ ∃ o : List Int, m 12 = some (.cells (o.flatMap cI) false) ∧ o.length = 4 ∧ ∀ j : Nat, o.getD j 0 = if j < i then (if Z.getD j false = true then 0 else P.getD j 0 + 1) else P.getD j 0) 4 ?_ ?_ ?_
  · simp +contextual (disch := omega) [Nat.add_assoc, Int.add_assoc, if_pos, if_neg, -Int.not_lt, -Int.not_le, -Nat.not_lt, -Nat.not_le, -List.length_flatMap, y5]
    exact ⟨by omega, P, hmv, hvl, fun j => rfl⟩
  · rintro i e m x hi ⟨g7, g8, g9, g10, g11, gx, y5, o, y12, ho, hoj⟩
    have hio : i < o.length := by omega
    have hiZ : i < Z.length := by omega
    have hoi : o[i] = P.getD i 0 := by
      have := hoj i
      rw [if_neg (by omega)] at this
      rw [← this]; simp [hio]
    have hb := hvs i
    rw [← hoi] at hb
    have hcl : (o.flatMap cI).length = 4 := by rw [flatI_len, ho]
    have hat : ∀ h : i < (o.flatMap cI).length, (o.flatMap cI)[i] = V.i .i64 o[i] := fun h => flatI_get h
    have hs1 := flatI_set (l := o) (j := i) (v := o[i] + 1) hio
    have hcl2 : ((o.set i (o[i] + 1)).flatMap cI).length = 4 := by rw [flatI_len, List.length_set, ho]
    have hs2 := flatI_set (l := o.set i (o[i] + 1)) (j := i) (v := 0) (by rw [List.length_set]; exact hio)
    have hZg : Z.getD i false = Z[i] := by simp [hiZ]
    have key : ∀ (w : Int), w = (if Z.getD i false = true then 0 else P.getD i 0 + 1) → ∀ j : Nat, (o.set i w).getD j 0 = if j < i + 1 then (if Z.getD j false = true then 0 else P.getD j 0 + 1) else P.getD j 0 := fun w hw j => by
      rw [set_getD, hoj j]
      by_cases hj : i = j
      · subst hj
        rw [if_pos ⟨rfl, hio⟩, if_pos (show i < i + 1 by omega)]
        exact hw
      · rw [if_neg (show ¬ (i = j ∧ j < o.length) by omega)]
        by_cases hj2 : j < i
        · rw [if_pos hj2, if_pos (show j < i + 1 by omega)]
        · rw [if_neg hj2, if_neg (show ¬ j < i + 1 by omega)]
    cases hz : Z[i] with
    | false =>
      simp +contextual (disch := omega) [Nat.add_assoc, Int.add_assoc, if_pos, if_neg, -Int.not_lt, -Int.not_le, -Nat.not_lt, -Nat.not_le, -List.length_flatMap, law06_FlatIs.b1, g7, g8, g9, g10, g11, y5, y12, hi, hcl, hat, hs1, hiZ, hz]
      exact ⟨o.set i (o[i] + 1), rfl, by simp [ho], fun j => by simpa using key (o[i] + 1) (by rw [hZg, hz, hoi]; simp) j⟩
    | true =>
      simp +contextual (disch := omega) [Nat.add_assoc, Int.add_assoc, if_pos, if_neg, -Int.not_lt, -Int.not_le, -Nat.not_lt, -Nat.not_le, -List.length_flatMap, law06_FlatIs.b1, g7, g8, g9, g10, g11, y5, y12, hi, hcl, hat, hs1, hcl2, hs2, hiZ, hz]
      exact ⟨o.set i 0, rfl, by simp [ho], fun j => by simpa using key 0 (by rw [hZg, hz]; simp) j⟩
  · rintro e m x ⟨g7, g8, g9, g10, g11, gx, y5, o, y12, ho, hoj⟩
    have hF : Fits Z o := by
      refine ⟨by omega, fun i hi => ?_⟩
      have h1 := hoj i
      rw [if_pos (by omega)] at h1
      have := hvs i
      split
      · rename_i h; rw [if_pos h] at h1; exact h1
      · rename_i h; rw [if_neg h] at h1; omega
    have hN : Nats o := by
      intro a ha
      obtain ⟨j, hj, rfl⟩ := List.mem_iff_getElem.1 ha
      have h1 := hoj j
      have := hvs j
      have e1 : o.getD j 0 = o[j] := by simp [hj]
      rw [e1] at h1
      rw [h1]
      split
      · split <;> omega
      · omega
    have hV := flat_Value.a X o (by omega) (by omega)
    rw [valueV_ok hfr (by omega) hN, hfv o hF] at hV
    have hE := ref02_Eval.a A oa o [] (by omega) (by simp)
    rw [evalS_ok (p := 4) (q := 0) ho rfl hR4 hN (by intro a ha; cases ha)] at hE
    have hcl : (o.flatMap cI).length = 4 := by rw [flatI_len, ho]
    have htk := flatI_all (q := o) (n := 4) ho.symm
    have hV' : Ans ctx flat_Value.n [.ag (cF X), .sl (o.flatMap cI) 4] (.tu [.i .i64 (lvS A o []), .i .i64 0]) := by
      have := hV
      rwa [sV, ho] at this
    have hE' : Ans ctx ref02_Eval.n [.ag (cL A), .sl (o.flatMap cI) 4, .sl [] 0] (.tu [.i .i64 (lvS A o []), .i .i64 0]) := by
      have := hE
      rwa [sV, ho] at this
    have hRt := flat_Right.a X (by omega)
    rw [hfr] at hRt
    simp +contextual (disch := omega) [Nat.add_assoc, Int.add_assoc, if_pos, if_neg, -Int.not_lt, -Int.not_le, -Nat.not_lt, -Nat.not_le, -List.length_flatMap, law06_FlatIs.b1, g7, g8, g9, g10, g11, y5, y12, hcl, htk, ansK h2, ansK hV', ansK hE', ansK hRt]
end Pi
