/- Contracts: why there is no model (layer 10): Core. -/
import Derived.Test.YtfdkpnckflmcaaaC10b
set_option linter.unusedSimpArgs false
set_option linter.unusedVariables false
namespace Pi
theorem core_lost.a (vars : Int) (l : List C) (hl : l.length ≤ 9223372036854775807) (hf : ∀ c ∈ l, c.frm.length ≤ 9223372036854775807) : Ans ctx core_lost.n [.i .i64 vars, sV cC l] (.b (rightC vars l && lostC vars.toNat l)) := by
  refine ans core_lost.f ?_
  have h := solve_Solve.a vars l hl hf
  unfold solveV at h
  unfold lostC
  cases hr : rightC vars l with
  | false =>
    rw [hr] at h
    simp +contextual (disch := omega) [Nat.add_assoc, Int.add_assoc, if_pos, if_neg, -Int.not_lt, -Int.not_le, -Nat.not_lt, -Nat.not_le, -List.length_flatMap, core_lost.c, ansK h]
  | true =>
    rw [hr] at h
    simp +contextual (disch := omega) [Nat.add_assoc, Int.add_assoc, if_pos, if_neg, -Int.not_lt, -Int.not_le, -Nat.not_lt, -Nat.not_le, -List.length_flatMap, core_lost.c, ansK h]
def coreV (vars : Int) (l : List C) : V := if rightC vars l = true then (if lostC vars.toNat l = true then .tu [sV cI (intL (coreL vars.toNat l)), .i .i64 0] else .tu [sV cI [], .i .i64 0]) else .tu [sV cI [], .i .i64 1]
theorem pick_ok {n : Nat} {l : List C} {p : List Nat} (hl : ∀ c ∈ l, okC n c = true) (hp : ∀ i ∈ p, i < l.length) : ∀ c ∈ pickC l p, okC n c = true := fun c hc => hl c (pick_mem hp hc)
theorem right_pick {n : Nat} {l : List C} {p : List Nat} (hr : rightC n l = true) (hp : ∀ i ∈ p, i < l.length) (hlen : p.length ≤ l.length) : rightC n (pickC l p) = true := by
  obtain ⟨r1, r2, r3, r4⟩ := right_ok hr
  simp [rightC, pick_len]
  exact ⟨by omega, fun c hc => r4 c (pick_mem hp hc)⟩
theorem fold_range {α : Type} (f : α → Nat → α) (z : α) (i : Nat) : (List.range (i + 1)).foldl f z = f ((List.range i).foldl f z) i := by
  rw [List.range_succ, List.foldl_append]; rfl
theorem core_Core.a (vars : Int) (l : List C) (hl : l.length ≤ 9223372036854775807) (hf : ∀ c ∈ l, c.frm.length ≤ 9223372036854775807) : Ans ctx core_Core.n [.i .i64 vars, sV cC l] (coreV vars l) := by
  refine ans core_Core.f ?_
  have hR := horn_Right.a vars l hl hf
  have hL := core_lost.a vars l hl hf
  unfold coreV
  cases hr : rightC vars l with
  | false => simp +contextual (disch := omega) [Nat.add_assoc, Int.add_assoc, if_pos, if_neg, -Int.not_lt, -Int.not_le, -Nat.not_lt, -Nat.not_le, -List.length_flatMap, core_Core.c, ansK hR, hr]
  | true =>
    obtain ⟨r1, r2, r3, r4⟩ := right_ok hr
    obtain ⟨n, rfl⟩ : ∃ n : Nat, vars = n := ⟨vars.toNat, by omega⟩
    rw [hr] at hL
    simp only [Int.toNat_natCast, Bool.true_and] at hL ⊢
    cases hlo : lostC n l with
    | false =>
      rw [hlo] at hL
      simp +contextual (disch := omega) [Nat.add_assoc, Int.add_assoc, if_pos, if_neg, -Int.not_lt, -Int.not_le, -Nat.not_lt, -Nat.not_le, -List.length_flatMap, core_Core.c, ansK hR, hr, ansK hL]
    | true =>
      rw [hlo] at hL
      obtain ⟨Q, hQ⟩ : ∃ Q : Nat, Q = 2 ^ l.length := ⟨_, rfl⟩
      have q1 : bin .shl (.i .u64 1) (.i .u64 l.length) = some (.i .u64 (Q : Nat)) := by rw [hQ]; exact bin_shl1 (by omega)
      have q2 : 1 ≤ Q := by rw [hQ]; exact Nat.one_le_two_pow
      have q3 : Q < 2 ^ 64 := by rw [hQ]; exact pow_lt (by omega)
      simp +contextual (disch := omega) [Nat.add_assoc, Int.add_assoc, if_pos, if_neg, -Int.not_lt, -Int.not_le, -Nat.not_lt, -Nat.not_le, -List.length_flatMap, core_Core.c, ansK hR, hr, ansK hL, q1]
      refine for_w (fun i e m x => ∃ S : Nat, e 0 = .i .i64 n ∧ e 1 = sV cC l ∧ e 6 = .i .u64 S ∧ e 23 = .i .i64 l.length ∧ e 24 = .i .i64 i ∧ bitsL S l.length = (List.range i).foldl (stepL n l) (List.range l.length)) l.length ?_ ?_ ?_
      · refine ⟨Q - 1, ?_⟩
        simp +contextual (disch := omega) [Nat.add_assoc, Int.add_assoc, if_pos, if_neg, -Int.not_lt, -Int.not_le, -Nat.not_lt, -Nat.not_le, -List.length_flatMap]
        exact ⟨by omega, by rw [hQ]; exact bits_full⟩
      · rintro i e m x hi ⟨S, g0, g1, g6, g23, g24, gS⟩
        have hof := core_set_of.a (offB S i) l (by omega) hf
        have hbo : bitsL (offB S i) l.length = lessL (bitsL S l.length) i := bits_off (by omega)
        have hlt : ∀ j ∈ lessL (bitsL S l.length) i, j < l.length := fun j hj => bitsL_lt (mem_less.1 hj).1
        have hle : (lessL (bitsL S l.length) i).length ≤ l.length := Nat.le_trans (less_len _ _) (bitsL_len _ _)
        rw [hbo] at hof
        have hL2 := core_lost.a n (pickC l (lessL (bitsL S l.length) i)) (by rw [pick_len]; omega) (fun c hc => hf c (pick_mem hlt hc))
        rw [right_pick hr hlt hle] at hL2
        simp only [Int.toNat_natCast, Bool.true_and] at hL2
        have hst : stepL n l (bitsL S l.length) i = if lostC n (pickC l (lessL (bitsL S l.length) i)) then lessL (bitsL S l.length) i else bitsL S l.length := rfl
        cases hlo2 : lostC n (pickC l (lessL (bitsL S l.length) i)) with
        | false =>
          rw [hlo2] at hL2 hst
          simp +contextual (disch := omega) [Nat.add_assoc, Int.add_assoc, if_pos, if_neg, -Int.not_lt, -Int.not_le, -Nat.not_lt, -Nat.not_le, -List.length_flatMap, core_Core.b1, g0, g1, g6, g23, g24, hi, ansK (core_set_without.a S i (by omega)), ansK hof, ansK hL2]
          rw [fold_range, ← gS, hst]
          exact ⟨S, rfl, by simp⟩
        | true =>
          rw [hlo2] at hL2 hst
          simp +contextual (disch := omega) [Nat.add_assoc, Int.add_assoc, if_pos, if_neg, -Int.not_lt, -Int.not_le, -Nat.not_lt, -Nat.not_le, -List.length_flatMap, core_Core.b1, g0, g1, g6, g23, g24, hi, ansK (core_set_without.a S i (by omega)), ansK hof, ansK hL2]
          rw [fold_range, ← gS, hst, ← hbo]
          exact ⟨offB S i, rfl, by simp⟩
      · rintro e m x ⟨S, g0, g1, g6, g23, g24, gS⟩
        have hp := core_set_places.a S l.length (by omega)
        rw [gS] at hp
        simp +contextual (disch := omega) [Nat.add_assoc, Int.add_assoc, if_pos, if_neg, -Int.not_lt, -Int.not_le, -Nat.not_lt, -Nat.not_le, -List.length_flatMap, core_Core.b1, g0, g1, g6, g23, g24, ansK hp]
        rfl
theorem ref10_some.a (l : List C) (p : List Nat) (hl : l.length ≤ 9223372036854775807) (hp : ∀ i ∈ p, i < l.length) (hpl : p.length ≤ 1000) : Ans ctx ref10_some.n [sV cC l, sV cI (intL p)] (sV cC (pickC l p)) := by
  refine ans ref10_some.f ?_
  have hil := intL_len p
  simp +contextual (disch := omega) [Nat.add_assoc, Int.add_assoc, if_pos, if_neg, -Int.not_lt, -Int.not_le, -Nat.not_lt, -Nat.not_le, -List.length_flatMap, ref10_some.c]
  refine for_w (fun i e m x => e 0 = sV cC l ∧ e 1 = sV cI (intL p) ∧ e 6 = .i .i64 i ∧ Bf m (e 5) cC 3 (pickC l (p.take i)) 0 x) p.length ?_ ?_ ?_
  · simp +contextual (disch := omega) [Nat.add_assoc, Int.add_assoc, if_pos, if_neg, -Int.not_lt, -Int.not_le, -Nat.not_lt, -Nat.not_le, -List.length_flatMap]
    exact Bf.nil
  · rintro i e m x hi ⟨g0, g1, g6, g5⟩
    have h1 := hp p[i] (List.getElem_mem hi)
    have e1 : (intL p)[i]'(by omega) = ((p[i] : Nat) : Int) := by simp [intL]
    have e2 : pickC l (p.take (i + 1)) = pickC l (p.take i) ++ [l[p[i]]] := by
      unfold pickC
      rw [List.take_succ_eq_append_getElem hi, List.map_append]
      simp [h1]
    have e3 : (pickC l (p.take i)).length = i := by rw [pick_len, List.length_take]; omega
    simp +contextual (disch := omega) [Nat.add_assoc, Int.add_assoc, if_pos, if_neg, -Int.not_lt, -Int.not_le, -Nat.not_lt, -Nat.not_le, -List.length_flatMap, ref10_some.b1, g0, g1, g6, hi, hil, e1, h1]
    refine g5.ap [l[p[i]]] (by simp +contextual (disch := omega) [Nat.add_assoc, Int.add_assoc, if_pos, if_neg, -Int.not_lt, -Int.not_le, -Nat.not_lt, -Nat.not_le, -List.length_flatMap]) (by omega) (by omega) (by simp) rfl (by rw [e3]; simp; omega) ?_
    intro B' ws m2 p0 p1 p2 p3
    simp +contextual (disch := omega) [Nat.add_assoc, Int.add_assoc, if_pos, if_neg, -Int.not_lt, -Int.not_le, -Nat.not_lt, -Nat.not_le, -List.length_flatMap, p0, g0, g1, g6, p1.stor, p1.cells]
    exact p1.to e2.symm (by omega)
  · rintro e m x ⟨g0, g1, g6, g5⟩
    rw [List.take_length] at g5
    simp +contextual (disch := omega) [Nat.add_assoc, Int.add_assoc, if_pos, if_neg, -Int.not_lt, -Int.not_le, -Nat.not_lt, -Nat.not_le, -List.length_flatMap, ref10_some.b1, g0, g1, g6, hil, g5.fz24]
end Pi
