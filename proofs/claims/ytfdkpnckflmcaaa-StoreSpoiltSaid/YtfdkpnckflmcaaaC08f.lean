/- Contracts: clauses (layer 8): Broken, Most, Names, on both sides; Ints. -/
import Derived.Test.YtfdkpnckflmcaaaC08e
set_option linter.unusedSimpArgs false
set_option linter.unusedVariables false
namespace Pi
theorem ref08_natural.a (l : List Int) (hl : l.length ≤ 9223372036854775807) : Ans ctx ref08_natural.n [sV cI l] (.b (!l.any oddN)) := by
  refine ans ref08_natural.f ?_
  simp +contextual (disch := omega) [Nat.add_assoc, Int.add_assoc, if_pos, if_neg, -Int.not_lt, -Int.not_le, -Nat.not_lt, -Nat.not_le, -List.length_flatMap, ref08_natural.c]
  refine for_w (fun i e m x => e 0 = sV cI l ∧ e 3 = .i .i64 i ∧ (l.take i).any oddN = false) l.length ?_ ?_ ?_
  · simp +contextual (disch := omega) [Nat.add_assoc, Int.add_assoc, if_pos, if_neg, -Int.not_lt, -Int.not_le, -Nat.not_lt, -Nat.not_le, -List.length_flatMap]
  · rintro i e m x hi ⟨g1, g2, g3⟩
    have ha := take_any (p := oddN) hi
    rw [g3] at ha
    have hb : oddN l[i] = true → l.any oddN = true := any_at hi
    generalize hv : l[i] = v at ha hb
    by_cases h0 : v < 0
    · have := hb (by simp [oddN, h0])
      simp +contextual (disch := omega) [Nat.add_assoc, Int.add_assoc, if_pos, if_neg, -Int.not_lt, -Int.not_le, -Nat.not_lt, -Nat.not_le, -List.length_flatMap, ref08_natural.b1, g1, g2, hi, hv, this]
    · by_cases h1 : 1099511627776 < v
      · have := hb (by simp [oddN, h1])
        simp +contextual (disch := omega) [Nat.add_assoc, Int.add_assoc, if_pos, if_neg, -Int.not_lt, -Int.not_le, -Nat.not_lt, -Nat.not_le, -List.length_flatMap, ref08_natural.b1, g1, g2, hi, hv, this]
      · simp +contextual (disch := omega) [Nat.add_assoc, Int.add_assoc, if_pos, if_neg, -Int.not_lt, -Int.not_le, -Nat.not_lt, -Nat.not_le, -List.length_flatMap, ref08_natural.b1, g1, g2, hi, hv, ha, oddN]
        omega
  · rintro e m x ⟨g1, g2, g3⟩
    rw [List.take_length] at g3
    simp +contextual (disch := omega) [Nat.add_assoc, Int.add_assoc, if_pos, if_neg, -Int.not_lt, -Int.not_le, -Nat.not_lt, -Nat.not_le, -List.length_flatMap, ref08_natural.b1, g1, g2, g3]
theorem ref08_Ints.a (a b : List Int) (ha : a.length ≤ 1000000) : Ans ctx ref08_Ints.n [sV cI a, sV cI b] (.b (decide (a = b))) := by
  refine ans ref08_Ints.f ?_
  by_cases hl : a.length = b.length
  · simp +contextual (disch := omega) [Nat.add_assoc, Int.add_assoc, if_pos, if_neg, -Int.not_lt, -Int.not_le, -Nat.not_lt, -Nat.not_le, -List.length_flatMap, ref08_Ints.c]
    refine for_w (fun i e m x => e 0 = sV cI a ∧ e 1 = sV cI b ∧ e 5 = .i .i64 i ∧ a.take i = b.take i) a.length ?_ ?_ ?_
    · simp +contextual (disch := omega) [Nat.add_assoc, Int.add_assoc, if_pos, if_neg, -Int.not_lt, -Int.not_le, -Nat.not_lt, -Nat.not_le, -List.length_flatMap]
    · rintro i e m x hi ⟨g1, g2, g3, g4⟩
      have hi' : i < b.length := by omega
      by_cases he : a[i] = b[i]
      · have : a.take (i + 1) = b.take (i + 1) := by rw [List.take_succ_eq_append_getElem hi, List.take_succ_eq_append_getElem hi', g4, he]
        simp +contextual (disch := omega) [Nat.add_assoc, Int.add_assoc, if_pos, if_neg, -Int.not_lt, -Int.not_le, -Nat.not_lt, -Nat.not_le, -List.length_flatMap, ref08_Ints.b1, g1, g2, g3, hi, hi', he, this]
      · have : a ≠ b := fun h => he (by subst h; rfl)
        simp +contextual (disch := omega) [Nat.add_assoc, Int.add_assoc, if_pos, if_neg, -Int.not_lt, -Int.not_le, -Nat.not_lt, -Nat.not_le, -List.length_flatMap, ref08_Ints.b1, g1, g2, g3, hi, hi', he, this]
    · rintro e m x ⟨g1, g2, g3, g4⟩
      rw [List.take_length, hl, List.take_length] at g4
      simp +contextual (disch := omega) [Nat.add_assoc, Int.add_assoc, if_pos, if_neg, -Int.not_lt, -Int.not_le, -Nat.not_lt, -Nat.not_le, -List.length_flatMap, ref08_Ints.b1, g1, g2, g3, g4]
  · have : a ≠ b := fun h => hl (by rw [h])
    simp +contextual (disch := omega) [Nat.add_assoc, Int.add_assoc, if_pos, if_neg, -Int.not_lt, -Int.not_le, -Nat.not_lt, -Nat.not_le, -List.length_flatMap, ref08_Ints.c, this]
/-- Which clauses do not hold, as it is told. -/
def brokenS (l : List C) (model : List Int) : V := if rightC model.length l = false ∨ model.any oddN = true then .tu [sV cI [], .i .i64 1] else .tu [sV cI (placesS (brokenC model) l), .i .i64 0]
theorem right_ok {vars : Int} {l : List C} (h : rightC vars l = true) : 1 ≤ vars ∧ vars ≤ 16 ∧ l.length ≤ 60 ∧ ∀ c ∈ l, okC vars c = true := by
  simp [rightC] at h
  exact ⟨by omega, by omega, by omega, h.2⟩
theorem placesS_len {α : Type} (p : α → Bool) (l : List α) : (placesS p l).length ≤ l.length := by
  unfold placesS
  rw [List.length_map]
  refine Nat.le_trans (List.length_filter_le _ _) (by simp)
theorem ref08_Broken.a (l : List C) (model : List Int) (hl : l.length ≤ 9223372036854775807) (hf : ∀ c ∈ l, c.frm.length ≤ 9223372036854775807) (hm : model.length ≤ 9223372036854775807) : Ans ctx ref08_Broken.n [sV cC l, sV cI model] (brokenS l model) := by
  refine ans ref08_Broken.f ?_
  have hr := ref08_Right.a model.length l hl hf
  have hn := ref08_natural.a model hm
  unfold brokenS
  cases h1 : rightC model.length l with
  | false => simp +contextual (disch := omega) [Nat.add_assoc, Int.add_assoc, if_pos, if_neg, -Int.not_lt, -Int.not_le, -Nat.not_lt, -Nat.not_le, -List.length_flatMap, ref08_Broken.c, ansK hr, h1]
  | true =>
    obtain ⟨r1, r2, r3, r4⟩ := right_ok h1
    cases h2 : model.any oddN with
    | true => rw [h2] at hn; simp +contextual (disch := omega) [Nat.add_assoc, Int.add_assoc, if_pos, if_neg, -Int.not_lt, -Int.not_le, -Nat.not_lt, -Nat.not_le, -List.length_flatMap, ref08_Broken.c, ansK hr, h1, ansK hn]
    | false =>
      rw [h2] at hn
      have hnat := nats_iff.1 h2
      simp +contextual (disch := omega) [Nat.add_assoc, Int.add_assoc, if_pos, if_neg, -Int.not_lt, -Int.not_le, -Nat.not_lt, -Nat.not_le, -List.length_flatMap, ref08_Broken.c, ansK hr, h1, ansK hn]
      refine for_w (fun i e m x => e 0 = sV cC l ∧ e 1 = sV cI model ∧ e 5 = .i .i64 0 ∧ e 7 = .i .i64 i ∧ Bf m (e 6) cI 1 (placesS (brokenC model) (l.take i)) 0 x) l.length ?_ ?_ ?_
      · simp +contextual (disch := omega) [Nat.add_assoc, Int.add_assoc, if_pos, if_neg, -Int.not_lt, -Int.not_le, -Nat.not_lt, -Nat.not_le, -List.length_flatMap, placesS_nil, Bf.nil]
      · rintro i e m x hi ⟨g1, g2, g3, g4, g6⟩
        have hok := r4 l[i] (List.getElem_mem hi)
        have hto := okC_to hok
        have hp := placesS_take (brokenC model) l i hi
        have hpl := placesS_len (brokenC model) (l.take i)
        have hd := getD_get model 0 (by omega : l[i].to.var.toNat < model.length)
        rw [List.length_take] at hpl
        cases hb : brokenC model l[i] with
        | false =>
          simp [hb] at hp
          have hb' := holds_at.1 hb
          rw [hd] at hb'
          simp +contextual (disch := omega) [Nat.add_assoc, Int.add_assoc, if_pos, if_neg, -Int.not_lt, -Int.not_le, -Nat.not_lt, -Nat.not_le, -List.length_flatMap, ref08_Broken.b1, g1, g2, g3, g4, hi, ansK (ref08_Asks.a hnat hok (by omega)), hp]
          exact g6.up (by omega) (by simp +contextual (disch := omega) [Nat.add_assoc, Int.add_assoc, if_pos, if_neg, -Int.not_lt, -Int.not_le, -Nat.not_lt, -Nat.not_le, -List.length_flatMap])
        | true =>
          rw [hb] at hp
          have hb' : model[l[i].to.var.toNat] < asksS model l[i] := by unfold brokenC at hb; rw [hd] at hb; simpa using hb
          simp +contextual (disch := omega) [Nat.add_assoc, Int.add_assoc, if_pos, if_neg, -Int.not_lt, -Int.not_le, -Nat.not_lt, -Nat.not_le, -List.length_flatMap, ref08_Broken.b1, g1, g2, g3, g4, hi, ansK (ref08_Asks.a hnat hok (by omega))]
          refine g6.ap [(i : Int)] (by simp +contextual (disch := omega) [Nat.add_assoc, Int.add_assoc, if_pos, if_neg, -Int.not_lt, -Int.not_le, -Nat.not_lt, -Nat.not_le, -List.length_flatMap]) (by omega) (by omega) (by simp) rfl (by simp; omega) ?_
          intro B' ws m2 q0 q1 q2 q3
          simp +contextual (disch := omega) [Nat.add_assoc, Int.add_assoc, if_pos, if_neg, -Int.not_lt, -Int.not_le, -Nat.not_lt, -Nat.not_le, -List.length_flatMap, q0, g1, g2, g3, g4]
          exact q1.to hp.symm (by omega)
      · rintro e m x ⟨g1, g2, g3, g4, g6⟩
        rw [List.take_length] at g6
        have hz := g6.fz24
        simp +contextual (disch := omega) [Nat.add_assoc, Int.add_assoc, if_pos, if_neg, -Int.not_lt, -Int.not_le, -Nat.not_lt, -Nat.not_le, -List.length_flatMap, ref08_Broken.b1, g1, g2, g3, g4, hz]
end Pi
