/- Laws of layer 6: flats of levels by numbers. -/
import Derived.Test.YtjaoacpemboakaaC06g
import Derived.Test.YtjaoacpemboakaaC02i
set_option linter.unusedSimpArgs false
set_option linter.unusedVariables false
namespace Pi
theorem law02_Values.w (l : List Nat) (hb : Byt l) (hl : l.length ≤ 9223372036854775807) (many : Nat) (hm : 0 < many ∧ many ≤ 1000) {m : Sto} {x : Nat} {K : CR → Sto → Nat → Prop}
    (hK : ∀ m' x', x + 3 ≤ x' → m' (x + 2) = some (.cells ((valuesS l many).flatMap cI) false) → (∀ j, j ≠ x + 2 → m' j = m j) → K (.ret (.ms (x + 2) 0 many 1)) m' x') :
    w ctx (envOf [sV cU l, .i .i64 many]) m x [] none none (RetG ctx law02_Values.c.rs K) law02_Values.c.code := by
  have hz := zeros_cI many
  have h0 : ¬ (many : Int) = 0 := by omega
  have h00 : ¬ many = 0 := by omega
  simp +contextual (disch := omega) [Nat.add_assoc, Int.add_assoc, if_pos, if_neg, -Int.not_lt, -Int.not_le, -Nat.not_lt, -Nat.not_le, -List.length_flatMap, law02_Values.c, h0, h00, hz]
  have hv : ∀ i, i < many → (valuesS l many).getD i 0 = ((l[i]?.getD 0 % 9 : Nat) : Int) := fun i hi => by simp [valuesS, hi]
  have hvl := valuesS_len l many
  refine for_w (fun i e m' x' => e 0 = sV cU l ∧ e 1 = .i .i64 many ∧ e 5 = .ms (x + 2) 0 many 1 ∧ e 6 = .i .i64 i ∧ i ≤ l.length ∧ (∀ j, j ≠ x + 2 → m' j = m j) ∧ ∃ o : List Int, m' (x + 2) = some (.cells (o.flatMap cI) false) ∧ o.length = many ∧ x + 2 < x' ∧
    ∀ j, j < many → o.getD j 0 = if j < i then (valuesS l many).getD j 0 else 0) (min l.length many) ?_ ?_ ?_
  · refine ⟨?_, ?_, ?_, ?_, ?_, ?_, List.replicate many 0, ?_⟩ <;> simp +contextual (disch := omega) [Nat.add_assoc, Int.add_assoc, if_pos, if_neg, -Int.not_lt, -Int.not_le, -Nat.not_lt, -Nat.not_le, -List.length_flatMap]
  · rintro i e m1 x1 hi ⟨g1, g2, g3, g4, g5, g0, o, g6, g7, g8, g9⟩
    have hi1 : i < l.length := by omega
    have hi2 : i < many := by omega
    have hbi := hb.at hi1
    have hsp := splice_cI o i ((l[i] : Int) % 9) (by omega)
    have hfl : (o.flatMap cI).length = o.length := by simpa using flat_len (f := cI) (k := 1) o
    simp only [splice, List.length_cons, List.length_nil, Nat.zero_add] at hsp
    simp +contextual (disch := omega) [Nat.add_assoc, Int.add_assoc, if_pos, if_neg, -Int.not_lt, -Int.not_le, -Nat.not_lt, -Nat.not_le, -List.length_flatMap, law02_Values.b1, g1, g2, g3, g4, g6, g7, hi1, hsp, hfl, Int.tmod_eq_emod_of_nonneg]
    refine ⟨by omega, fun j hj => by simp +contextual (disch := omega) [Nat.add_assoc, Int.add_assoc, if_pos, if_neg, -Int.not_lt, -Int.not_le, -Nat.not_lt, -Nat.not_le, -List.length_flatMap, g0 j hj], o.set i ((l[i] : Int) % 9), rfl, by simp [g7], by omega, fun j hj => ?_⟩
    have h1 := g9 j hj
    have h2 := hv i hi2
    simp [hi1, hi2, hvl] at h1 h2
    by_cases hji : j = i
    · subst hji
      simp [h2, g7, hj]
    · rw [List.getElem?_set_ne (by omega), h1]
      by_cases hj2 : j < i
      · rw [if_pos hj2, if_pos (by omega)]
        simp [hvl, hj]
      · rw [if_neg hj2, if_neg (by omega)]
  · rintro e m1 x1 ⟨g1, g2, g3, g4, g5, g0, o, g6, g7, g8, g9⟩
    have ho : o = valuesS l many := by
      apply List.ext_getElem (by omega)
      intro j hj1 hj2
      have h1 := g9 j (by omega)
      have h2 := hv j (by omega)
      simp [hj1, hj2] at h1 h2
      rw [h1]
      by_cases hj : j < l.length
      · rw [if_pos (by omega)]
      · rw [if_neg (by omega), h2]
        simp [List.getElem?_eq_none (by omega : l.length ≤ j)]
    have hfin := hK m1
    rw [ho] at g6
    rcases Nat.lt_or_ge many l.length with hc | hc
    · simp +contextual (disch := omega) [Nat.add_assoc, Int.add_assoc, if_pos, if_neg, -Int.not_lt, -Int.not_le, -Nat.not_lt, -Nat.not_le, -List.length_flatMap, law02_Values.b1, g1, g2, g3, g4]
      exact hfin _ (by omega) g6 g0
    · simp +contextual (disch := omega) [Nat.add_assoc, Int.add_assoc, if_pos, if_neg, -Int.not_lt, -Int.not_le, -Nat.not_lt, -Nat.not_le, -List.length_flatMap, law02_Values.b1, g1, g2, g3, g4]
      exact hfin _ (by omega) g6 g0

def caseB (n : Nat) : List Bool := [decide (n % 2 = 1), decide (n / 2 % 2 = 1), decide (n / 4 % 2 = 1), decide (n / 8 % 2 = 1)]
theorem law06_Case.a (n : Nat) (hn : n < 256) : Ans ctx law06_Case.n [.i .u8 n] (sV cB (caseB n)) := by
  refine ans law06_Case.f ?_
  simp +contextual (disch := omega) [Nat.add_assoc, Int.add_assoc, if_pos, if_neg, -Int.not_lt, -Int.not_le, -Nat.not_lt, -Nat.not_le, -List.length_flatMap, law06_Case.c, Int.tmod_eq_emod_of_nonneg, Int.tdiv_eq_ediv_of_nonneg]
  refine ⟨?_, rfl⟩
  have h1 : decide ((n : Int) % 2 = 1) = decide (n % 2 = 1) := by rw [decide_eq_decide]; omega
  have h2 : decide ((n : Int) / 2 % 2 = 1) = decide (n / 2 % 2 = 1) := by rw [decide_eq_decide]; omega
  have h3 : decide ((n : Int) / 4 % 2 = 1) = decide (n / 4 % 2 = 1) := by rw [decide_eq_decide]; omega
  have h4 : decide ((n : Int) / 8 % 2 = 1) = decide (n / 8 % 2 = 1) := by rw [decide_eq_decide]; omega
  rw [h1, h2, h3, h4]
  rfl
theorem madeR (l : List Nat) : RightS (madeS l 4 0) (4 : Nat) (0 : Nat) = true := RightS_of (by omega) (by omega) (by have := madeS_sz l 4 0; omega) (rightS_up _ _ _ _ _ (by omega) (madeS_right l 4 0))
theorem flat_made (l : List Nat) (zero : List Bool) (hz : zero.length = 4) : flattenV (madeS l 4 0) zero = .tu [.ag (cF (flattenF (madeS l 4 0) zero)), .i .i64 0] ∧ (flattenF (madeS l 4 0) zero).offs.length = 4 := by
  have h := madeR l
  have h' : RightS (madeS l 4 0) zero.length 0 = true := by rw [hz]; exact h
  refine ⟨by unfold flattenV; rw [if_pos h'], ?_⟩
  obtain ⟨hp, hr⟩ := RightS_ok (q := 0) h'
  have hbd := ofS_bd _ zero 12 hr
  rw [flatten_low _ zero hbd]
  simp only
  rw [hbd.1, hz]
set_option maxRecDepth 20000 in
set_option maxHeartbeats 1000000 in
theorem law06_FlatMade.a (l k v : List Nat) (hl : Byt l) (hk : Byt k) (hv : Byt v) (ll : l.length ≤ 9223372036854775807) (lk : k.length ≤ 9223372036854775807) (lv : v.length ≤ 9223372036854775807) : Ans ctx law06_FlatMade.n [sV cU l, sV cU k, sV cU v] (.b true) := by
  refine ans law06_FlatMade.f ?_
  have q1 : Ans ctx law02_Made.n [sV cU l, .i .i64 4, .i .i64 0] (.ag (cL (madeS l 4 0))) := law02_Made.a l hl 4 0 (by omega) (by omega)
  have q2 : Ans ctx law02_Made.n [sV cU k, .i .i64 4, .i .i64 0] (.ag (cL (madeS k 4 0))) := law02_Made.a k hk 4 0 (by omega) (by omega)
  have oa := madeS_ok l 4 0 (by omega) (by omega)
  have ob := madeS_ok k 4 0 (by omega) (by omega)
  have fa := flat_made l
  have fb := flat_made k
  generalize madeS l 4 0 = A at *
  generalize madeS k 4 0 = B at *
  simp +contextual (disch := omega) [Nat.add_assoc, Int.add_assoc, if_pos, if_neg, -Int.not_lt, -Int.not_le, -Nat.not_lt, -Nat.not_le, -List.length_flatMap, law06_FlatMade.c, ansK q1, ansK q2]
  refine for_w (fun i e m x => e 2 = sV cU v ∧ e 7 = .p 3 0 ∧ e 8 = .p 4 0 ∧ e 9 = .i .i64 i ∧ 5 ≤ x ∧ m 3 = some (.cells (cL A) false) ∧ m 4 = some (.cells (cL B) false)) 16 ?_ ?_ ?_
  · simp +contextual (disch := omega) [Nat.add_assoc, Int.add_assoc, if_pos, if_neg, -Int.not_lt, -Int.not_le, -Nat.not_lt, -Nat.not_le, -List.length_flatMap]
  · rintro i e m x hi ⟨g2, g7, g8, g9, gx, y5, y6⟩
    have hC := law06_Case.a i (by omega)
    have hcl : (caseB i).length = 4 := rfl
    obtain ⟨ea, la⟩ := fa (caseB i) hcl
    obtain ⟨eb, lb⟩ := fb (caseB i) hcl
    have h1 := flat_Flatten.a A oa (caseB i) (by omega)
    have h2 := ref06_Flatten.a A oa (caseB i) (by omega)
    have h3 := ref06_Flatten.a B ob (caseB i) (by omega)
    rw [ea] at h1 h2
    rw [eb] at h3
    generalize caseB i = Z at *
    generalize flattenF A Z = X at *
    generalize flattenF B Z = Y at *
    have hS := ref06_Same.a X X (by omega)
    rw [decide_eq_true rfl] at hS
    have hT1 := law06_told.a X Y (valuesS v 4) (by omega) (by omega) (by rw [valuesS_len]; omega)
    have hT2 : Ans ctx law06_told.n [.ag (cF X), .ag (cF X), .sl [] 0] (.b true) := law06_told.a X X [] (by omega) (by omega) (by simp)
    simp +contextual (disch := omega) [Nat.add_assoc, Int.add_assoc, if_pos, if_neg, -Int.not_lt, -Int.not_le, -Nat.not_lt, -Nat.not_le, -List.length_flatMap, law06_FlatMade.b1, g2, g7, g8, g9, y5, y6, ansK hC, ansK h1, ansK h2, ansK h3, ansK hS]
    rw [CallQ_op (by rfl)]
    refine openq_w rfl rfl rfl rfl (a := [sV cU v, .i .i64 4]) (by simp [freezeL]) ?_
    refine law02_Values.w v hv lv 4 (by omega) ?_
    intro m1 x1 hx1 hmv hm1
    refine ⟨by simp [V.over], fun j h1 h2 => ?_, fun ws ids w1 w2 w3 => ?_⟩
    · by_cases e1 : j = x + 41 + 2
      · rw [e1, hmv]; exact over_cI _ _
      · rw [hm1 j e1]; rfl
    · obtain ⟨M2, hM2⟩ : ∃ M2, M2 = Sto.app ((((((m.set (x + 10) (some (.cells [.i .i64 0, .ns] false))).set (x + 10) (some (.cells (cF X) false))).set (x + 18) (some (.cells [.i .i64 0, .ns] false))).set (x + 18) (some (.cells (cF X) false))).set (x + 26) (some (.cells [.i .i64 0, .ns] false))).set (x + 26) (some (.cells (cF Y) false))) ws := ⟨_, rfl⟩
      have v2 : M2 (x + 43) = some (.cells ((valuesS v 4).flatMap cI) false) := by rw [hM2, w3, if_pos ⟨by omega, by omega⟩, hmv]
      have v18 : M2 (x + 18) = some (.cells (cF X) false) := by rw [hM2, w3, if_neg (by omega)]; simp +contextual (disch := omega) [Nat.add_assoc, Int.add_assoc, if_pos, if_neg, -Int.not_lt, -Int.not_le, -Nat.not_lt, -Nat.not_le, -List.length_flatMap]
      have v5 : M2 3 = some (.cells (cL A) false) := by rw [hM2, w3, if_neg (by omega)]; simp +contextual (disch := omega) [Nat.add_assoc, Int.add_assoc, if_pos, if_neg, -Int.not_lt, -Int.not_le, -Nat.not_lt, -Nat.not_le, -List.length_flatMap, y5]
      have v6 : M2 4 = some (.cells (cL B) false) := by rw [hM2, w3, if_neg (by omega)]; simp +contextual (disch := omega) [Nat.add_assoc, Int.add_assoc, if_pos, if_neg, -Int.not_lt, -Int.not_le, -Nat.not_lt, -Nat.not_le, -List.length_flatMap, y6]
      have hvl := valuesS_len v 4
      have hcl2 : ((valuesS v 4).flatMap cI).length = 4 := by rw [flatI_len, hvl]
      have htk := flatI_all (q := valuesS v 4) (n := 4) hvl.symm
      have hT1' : Ans ctx law06_told.n [.ag (cF X), .ag (cF Y), .sl ((valuesS v 4).flatMap cI) 4] (.b true) := by
        have := hT1
        rwa [sV, hvl] at this
      simp +contextual (disch := omega) [Nat.add_assoc, Int.add_assoc, if_pos, if_neg, -Int.not_lt, -Int.not_le, -Nat.not_lt, -Nat.not_le, -List.length_flatMap, hM2.symm, w2, v2, v18, hcl2, htk, ansK hT1', ansK hT2, g2, g7, g8, g9, v5, v6]
      exact ⟨fun j hj => by have := w1 j hj; omega, fun h => by have := w1 _ h; omega⟩
  · rintro e m x ⟨g2, g7, g8, g9, gx, y5, y6⟩
    simp +contextual (disch := omega) [Nat.add_assoc, Int.add_assoc, if_pos, if_neg, -Int.not_lt, -Int.not_le, -Nat.not_lt, -Nat.not_le, -List.length_flatMap, law06_FlatMade.b1, g2, g7, g8, g9, y5, y6, ansK law06_awake.a]
end Pi
