/- Contracts: why there is no model (layer 10): Proves. -/
import Derived.Test.YtfdkpnckflmcaaaC10d
set_option linter.unusedSimpArgs false
set_option linter.unusedVariables false
namespace Pi
def natL (p : List Int) : List Nat := p.map Int.toNat
theorem natL_len (p : List Int) : (natL p).length = p.length := by simp [natL]
def provesB (vars : Int) (l : List C) (p : List Int) : Bool := rightC vars l && riseB l.length (-1) p && lostC vars.toNat (pickC l (natL p))
theorem rise_len {n : Nat} : ∀ (p : List Int) (a : Int), a < n → riseB n a p = true → (p.length : Int) ≤ n - 1 - a := by
  intro p
  induction p with
  | nil => intro a ha _; simp; omega
  | cons b p ih =>
    intro a ha h
    simp only [riseB, Bool.and_eq_true, decide_eq_true_eq] at h
    have := ih b h.1.2 h.2
    simp
    omega
theorem rise_lt {n : Nat} : ∀ (p : List Int) (a : Int), -1 ≤ a → riseB n a p = true → ∀ b ∈ p, a < b ∧ b < n := by
  intro p
  induction p with
  | nil => intro a _ _ b hb; cases hb
  | cons c p ih =>
    intro a ha h b hb
    simp only [riseB, Bool.and_eq_true, decide_eq_true_eq] at h
    rcases List.mem_cons.1 hb with rfl | hb
    · exact h.1
    · have := ih c (by omega) h.2 b hb
      omega
theorem rise_nat {n : Nat} {p : List Int} (h : riseB n (-1) p = true) : intL (natL p) = p ∧ (∀ i ∈ natL p, i < n) ∧ p.length ≤ n := by
  have h1 := rise_lt p (-1) (by omega) h
  have h2 := rise_len p (-1) (by omega) h
  refine ⟨?_, fun i hi => ?_, by omega⟩
  · unfold intL natL
    rw [List.map_map]
    conv => rhs; rw [← List.map_id p]
    apply List.map_congr_left
    intro a ha
    have := h1 a ha
    simp
    omega
  · obtain ⟨a, ha, rfl⟩ := List.mem_map.1 hi
    have := h1 a ha
    omega
theorem rise_at {n : Nat} {p : List Int} {i : Nat} (hi : i < p.length) (a : Int) : riseB n a (p.drop i) = (decide (a < p[i]) && decide (p[i] < n) && riseB n p[i] (p.drop (i + 1))) := by
  rw [List.drop_eq_getElem_cons hi]; rfl
theorem core_Proves.a (vars : Int) (l : List C) (p : List Int) (hl : l.length ≤ 9223372036854775807) (hf : ∀ c ∈ l, c.frm.length ≤ 9223372036854775807) (hp : p.length ≤ 1000) : Ans ctx core_Proves.n [.i .i64 vars, sV cC l, sV cI p] (.b (provesB vars l p)) := by
  refine ans core_Proves.f ?_
  have hR := horn_Right.a vars l hl hf
  simp +contextual (disch := omega) [Nat.add_assoc, Int.add_assoc, if_pos, if_neg, -Int.not_lt, -Int.not_le, -Nat.not_lt, -Nat.not_le, -List.length_flatMap, core_Proves.c]
  refine for_w (fun i e m x => ∃ a : Int, -1 ≤ a ∧ riseB l.length (-1) p = riseB l.length a (p.drop i) ∧ e 0 = .i .i64 vars ∧ e 1 = sV cC l ∧ e 7 = .i .i64 a ∧ e 11 = sV cI p ∧ e 12 = .i .i64 p.length ∧ e 13 = .i .i64 i ∧ Bf m (e 8) cC 3 (pickC l (natL (p.take i))) 0 x) p.length ?_ ?_ ?_
  · refine ⟨-1, by omega, rfl, ?_⟩
    simp +contextual (disch := omega) [Nat.add_assoc, Int.add_assoc, if_pos, if_neg, -Int.not_lt, -Int.not_le, -Nat.not_lt, -Nat.not_le, -List.length_flatMap]
    exact Bf.nil
  · rintro i e m x hi ⟨a, ha, hra, g0, g1, g7, g11, g12, g13, g8⟩
    rw [rise_at hi] at hra
    by_cases h1 : p[i] ≤ a
    · have hz : provesB vars l p = false := by
        unfold provesB
        rw [hra, decide_eq_false (by omega : ¬ a < p[i])]
        simp
      simp +contextual (disch := omega) [Nat.add_assoc, Int.add_assoc, if_pos, if_neg, -Int.not_lt, -Int.not_le, -Nat.not_lt, -Nat.not_le, -List.length_flatMap, core_Proves.b1, g0, g1, g7, g11, g12, g13, hi, h1, hz]
    · by_cases h2 : (l.length : Int) ≤ p[i]
      · have hz : provesB vars l p = false := by
          unfold provesB
          rw [hra, decide_eq_false (by omega : ¬ p[i] < (l.length : Int))]
          simp
        simp +contextual (disch := omega) [Nat.add_assoc, Int.add_assoc, if_pos, if_neg, -Int.not_lt, -Int.not_le, -Nat.not_lt, -Nat.not_le, -List.length_flatMap, core_Proves.b1, g0, g1, g7, g11, g12, g13, hi, h1, h2, hz]
      · rw [decide_eq_true (by omega), decide_eq_true (by omega), Bool.true_and, Bool.true_and] at hra
        obtain ⟨P, hP⟩ : ∃ P : Nat, p[i] = (P : Nat) := ⟨p[i].toNat, by omega⟩
        have hPl : P < l.length := by omega
        have e2 : pickC l (natL (p.take (i + 1))) = pickC l (natL (p.take i)) ++ [l[P]] := by
          unfold pickC natL
          rw [List.take_succ_eq_append_getElem hi, List.map_append, List.map_append, hP]
          simp [hPl]
        have e3 : (pickC l (natL (p.take i))).length = i := by rw [pick_len, natL_len, List.length_take]; omega
        simp +contextual (disch := omega) [Nat.add_assoc, Int.add_assoc, if_pos, if_neg, -Int.not_lt, -Int.not_le, -Nat.not_lt, -Nat.not_le, -List.length_flatMap, core_Proves.b1, g0, g1, g7, g11, g12, g13, hi, hP, h1, h2, hPl]
        refine g8.ap [l[P]] (by simp +contextual (disch := omega) [Nat.add_assoc, Int.add_assoc, if_pos, if_neg, -Int.not_lt, -Int.not_le, -Nat.not_lt, -Nat.not_le, -List.length_flatMap]) (by omega) (by omega) (by simp) rfl (by rw [e3]; simp; omega) ?_
        intro B' ws m2 z0 z1 z2 z3
        simp +contextual (disch := omega) [Nat.add_assoc, Int.add_assoc, if_pos, if_neg, -Int.not_lt, -Int.not_le, -Nat.not_lt, -Nat.not_le, -List.length_flatMap, z0, g0, g1, g11, g12, g13, z1.stor, z1.cells]
        rw [hP] at hra
        exact ⟨P, by omega, hra, rfl, z1.to e2.symm (by omega)⟩
  · rintro e m x ⟨a, ha, hra, g0, g1, g7, g11, g12, g13, g8⟩
    rw [List.drop_length] at hra
    rw [List.take_length] at g8
    obtain ⟨n1, n2, n3⟩ := rise_nat hra
    have hL := core_lost.a vars (pickC l (natL p)) (by rw [pick_len, natL_len]; omega) (fun c hc => hf c (pick_mem n2 hc))
    have hra' : riseB l.length (-1) p = true := hra
    cases hr : rightC vars l with
    | false =>
      have hz : provesB vars l p = false := by unfold provesB; rw [hr]; simp
      simp +contextual (disch := omega) [Nat.add_assoc, Int.add_assoc, if_pos, if_neg, -Int.not_lt, -Int.not_le, -Nat.not_lt, -Nat.not_le, -List.length_flatMap, core_Proves.b1, g0, g1, g7, g11, g12, g13, ansK hR, hr, hz]
    | true =>
      obtain ⟨r1, r2, r3, r4⟩ := right_ok hr
      obtain ⟨n, rfl⟩ : ∃ n : Nat, vars = n := ⟨vars.toNat, by omega⟩
      rw [right_pick hr n2 (by rw [natL_len]; omega)] at hL
      have hz : provesB n l p = lostC n (pickC l (natL p)) := by unfold provesB; rw [hr, hra']; simp
      simp only [Int.toNat_natCast, Bool.true_and] at hL
      simp +contextual (disch := omega) [Nat.add_assoc, Int.add_assoc, if_pos, if_neg, -Int.not_lt, -Int.not_le, -Nat.not_lt, -Nat.not_le, -List.length_flatMap, core_Proves.b1, g0, g1, g7, g11, g12, g13, ansK hR, hr, hz, g8.fz24, ansK hL]
theorem ref10_Proves.a (vars : Int) (l : List C) (p : List Int) (hl : l.length ≤ 9223372036854775807) (hf : ∀ c ∈ l, c.frm.length ≤ 9223372036854775807) (hp : p.length ≤ 1000) : Ans ctx ref10_Proves.n [.i .i64 vars, sV cC l, sV cI p] (.b (provesB vars l p)) := by
  refine ans ref10_Proves.f ?_
  have hR := ref08_Right.a vars l hl hf
  cases hr : rightC vars l with
  | false =>
    have hz : provesB vars l p = false := by unfold provesB; rw [hr]; simp
    simp +contextual (disch := omega) [Nat.add_assoc, Int.add_assoc, if_pos, if_neg, -Int.not_lt, -Int.not_le, -Nat.not_lt, -Nat.not_le, -List.length_flatMap, ref10_Proves.c, ansK hR, hr, hz]
  | true =>
    obtain ⟨r1, r2, r3, r4⟩ := right_ok hr
    obtain ⟨n, rfl⟩ : ∃ n : Nat, vars = n := ⟨vars.toNat, by omega⟩
    simp +contextual (disch := omega) [Nat.add_assoc, Int.add_assoc, if_pos, if_neg, -Int.not_lt, -Int.not_le, -Nat.not_lt, -Nat.not_le, -List.length_flatMap, ref10_Proves.c, ansK hR, hr]
    refine for_w (fun i e m x => ∃ a : Int, -1 ≤ a ∧ a < l.length ∧ (i = 0 → a = -1) ∧ (∀ k, i = k + 1 → p[k]? = some a) ∧ riseB l.length (-1) p = riseB l.length a (p.drop i) ∧ e 0 = .i .i64 n ∧ e 1 = sV cC l ∧ e 2 = sV cI p ∧ e 7 = .i .i64 i) p.length ?_ ?_ ?_
    · refine ⟨-1, by omega, by omega, fun _ => rfl, fun k h => (by cases h), rfl, ?_⟩
      simp +contextual (disch := omega) [Nat.add_assoc, Int.add_assoc, if_pos, if_neg, -Int.not_lt, -Int.not_le, -Nat.not_lt, -Nat.not_le, -List.length_flatMap]
    · rintro i e m x hi ⟨a, ha, hal, ha0, has, hra, g0, g1, g2, g7⟩
      rw [rise_at hi] at hra
      by_cases h2 : (l.length : Int) ≤ p[i]
      · have hz : provesB n l p = false := by
          unfold provesB
          rw [hra, decide_eq_false (by omega : ¬ p[i] < (l.length : Int))]
          simp
        have hn : ¬ p[i] < 0 := by omega
        simp +contextual (disch := omega) [Nat.add_assoc, Int.add_assoc, if_pos, if_neg, -Int.not_lt, -Int.not_le, -Nat.not_lt, -Nat.not_le, -List.length_flatMap, ref10_Proves.b1, g0, g1, g2, g7, hi, h2, hn, hz]
      · by_cases h1 : p[i] ≤ a
        · have hz : provesB n l p = false := by
            unfold provesB
            rw [hra, decide_eq_false (by omega : ¬ a < p[i])]
            simp
          by_cases h3 : p[i] < 0
          · simp +contextual (disch := omega) [Nat.add_assoc, Int.add_assoc, if_pos, if_neg, -Int.not_lt, -Int.not_le, -Nat.not_lt, -Nat.not_le, -List.length_flatMap, ref10_Proves.b1, g0, g1, g2, g7, hi, h3, hz]
          · cases i with
            | zero => have := ha0 rfl; omega
            | succ k =>
              have hk := has k rfl
              rw [List.getElem?_eq_getElem (by omega)] at hk
              have hk' : p[k] = a := by simpa using hk
              simp +contextual (disch := omega) [Nat.add_assoc, Int.add_assoc, if_pos, if_neg, -Int.not_lt, -Int.not_le, -Nat.not_lt, -Nat.not_le, -List.length_flatMap, ref10_Proves.b1, g0, g1, g2, g7, hi, h2, h3, h1, hk', hz]
        · rw [decide_eq_true (by omega), decide_eq_true (by omega), Bool.true_and, Bool.true_and] at hra
          have h3 : ¬ p[i] < 0 := by omega
          cases i with
          | zero =>
            simp +contextual (disch := omega) [Nat.add_assoc, Int.add_assoc, if_pos, if_neg, -Int.not_lt, -Int.not_le, -Nat.not_lt, -Nat.not_le, -List.length_flatMap, ref10_Proves.b1, g0, g1, g2, g7, hi, h2, h3, h1]
            exact ⟨p[0], by omega, by omega, rfl, by simpa using hra⟩
          | succ k =>
            have hk := has k rfl
            rw [List.getElem?_eq_getElem (by omega)] at hk
            have hk' : p[k] = a := by simpa using hk
            simp +contextual (disch := omega) [Nat.add_assoc, Int.add_assoc, if_pos, if_neg, -Int.not_lt, -Int.not_le, -Nat.not_lt, -Nat.not_le, -List.length_flatMap, ref10_Proves.b1, g0, g1, g2, g7, hi, h2, h3, h1, hk']
            exact ⟨p[k + 1], by omega, by omega, fun k1 e => by subst e; rfl, hra⟩
    · rintro e m x ⟨a, ha, hal, ha0, has, hra, g0, g1, g2, g7⟩
      rw [List.drop_length] at hra
      obtain ⟨n1, n2, n3⟩ := rise_nat hra
      have hra' : riseB l.length (-1) p = true := hra
      have hrp := right_pick hr n2 (by rw [natL_len]; omega)
      obtain ⟨m1, k1, hS⟩ := ref_ok (l := pickC l (natL p)) (by rw [pick_len, natL_len]; omega) (fun c hc => hf c (pick_mem n2 hc)) hrp
      have hso := ref10_some.a l (natL p) hl n2 (by rw [natL_len]; omega)
      rw [n1] at hso
      have hz : provesB n l p = lostC n (pickC l (natL p)) := by unfold provesB; rw [hr, hra']; simp
      simp only [Int.toNat_natCast] at hS
      simp +contextual (disch := omega) [Nat.add_assoc, Int.add_assoc, if_pos, if_neg, -Int.not_lt, -Int.not_le, -Nat.not_lt, -Nat.not_le, -List.length_flatMap, ref10_Proves.b1, g0, g1, g2, g7, ansK hso, ansK hS, hz]
end Pi
