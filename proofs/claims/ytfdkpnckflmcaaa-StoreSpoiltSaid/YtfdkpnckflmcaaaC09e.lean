/- Contracts: the least model (layer 9): the document's rounds; Solve and From, on both sides. -/
import Derived.Test.YtfdkpnckflmcaaaC09d
set_option linter.unusedSimpArgs false
set_option linter.unusedVariables false
namespace Pi
theorem ref09_Limit.a {vars : Int} {l : List C} (hr : rightC vars l = true) : Ans ctx ref09_Limit.n [.i .i64 vars, sV cC l] (.i .i64 ((vars - 1) * mostS l)) := by
  refine ans ref09_Limit.f ?_
  obtain ⟨r1, r2, r3, r4⟩ := right_ok hr
  have hm := ref08_Most.a vars l (by omega) (fun c hc => Nat.le_trans (okC_six (r4 c hc)) (by omega))
  rw [mostV, if_pos hr] at hm
  have hb := mostS_bd r4
  have h1 : 0 ≤ (vars - 1) * mostS l := Int.mul_nonneg (by omega) hb.1
  have h2 : (vars - 1) * mostS l ≤ 15 * 1000 := Int.mul_le_mul (by omega) hb.2 hb.1 (by omega)
  simp +contextual (disch := omega) [Nat.add_assoc, Int.add_assoc, if_pos, if_neg, -Int.not_lt, -Int.not_le, -Nat.not_lt, -Nat.not_le, -List.length_flatMap, ref09_Limit.c, ansK hm]
theorem ref09_great.a {m : List Int} {most : Int} (hl : m.length ≤ 1000) : Ans ctx ref09_great.n [sV cI m, .i .i64 most] (.b (greatC most m)) := by
  refine ans ref09_great.f ?_
  simp +contextual (disch := omega) [Nat.add_assoc, Int.add_assoc, if_pos, if_neg, -Int.not_lt, -Int.not_le, -Nat.not_lt, -Nat.not_le, -List.length_flatMap, ref09_great.c]
  refine for_w (fun i e m' x => e 0 = sV cI m ∧ e 1 = .i .i64 most ∧ e 5 = .i .i64 i ∧ greatC most (m.take i) = false) m.length ?_ ?_ ?_
  · simp +contextual (disch := omega) [Nat.add_assoc, Int.add_assoc, if_pos, if_neg, -Int.not_lt, -Int.not_le, -Nat.not_lt, -Nat.not_le, -List.length_flatMap]
    rfl
  · rintro i e m' x hi ⟨g1, g2, g3, g4⟩
    have h1 : greatC most (m.take (i + 1)) = (greatC most (m.take i) || decide (most < m[i])) := take_any hi
    rw [g4] at h1
    by_cases h : most < m[i]
    · have : greatC most m = true := any_at hi (by simpa using h)
      simp +contextual (disch := omega) [Nat.add_assoc, Int.add_assoc, if_pos, if_neg, -Int.not_lt, -Int.not_le, -Nat.not_lt, -Nat.not_le, -List.length_flatMap, ref09_great.b1, g1, g2, g3, hi, this]
    · have h2 : greatC most (m.take (i + 1)) = false := by rw [h1]; simp; omega
      simp +contextual (disch := omega) [Nat.add_assoc, Int.add_assoc, if_pos, if_neg, -Int.not_lt, -Int.not_le, -Nat.not_lt, -Nat.not_le, -List.length_flatMap, ref09_great.b1, g1, g2, g3, hi, h2]
  · rintro e m' x ⟨g1, g2, g3, g4⟩
    rw [List.take_length] at g4
    simp +contextual (disch := omega) [Nat.add_assoc, Int.add_assoc, if_pos, if_neg, -Int.not_lt, -Int.not_le, -Nat.not_lt, -Nat.not_le, -List.length_flatMap, ref09_great.b1, g1, g2, g3, g4]
theorem fold_le (l : List C) (m : List Int) : LeM m (l.foldl stepC m) := round_le l m
theorem step_ne {m a : List Int} {c : C} (h : LeM m a) (hl : m.length = a.length) : stepC a c = m → a = m := by
  intro e
  have h1 := step_le a c
  rw [e] at h1
  exact LeM.anti hl.symm h1 h
theorem ref09_rounds.a {l : List C} {frm : List Int} {most : Int} (hl : l.length ≤ 60) (hn : 1 ≤ frm.length ∧ frm.length ≤ 16) (hc : ∀ c ∈ l, okC frm.length c = true) (hm : 0 ≤ most ∧ most ≤ 100000) (hf : SmallM most frm) :
    Ans ctx ref09_rounds.n [sV cC l, sV cI frm, .i .i64 most] (runV (lmC l frm most)) := by
  refine ans ref09_rounds.f ?_
  have hroom : roomC most frm ≤ 1700000 := by
    have := room_bd hm.1 (m := frm) (fun i => (hf i).1)
    have h5 : frm.length * (most.toNat + 1) ≤ 16 * 100001 := Nat.mul_le_mul hn.2 (by omega)
    omega
  have hne : frm ≠ [] := by intro h; rw [h] at hn; simp at hn
  simp +contextual (disch := omega) [Nat.add_assoc, Int.add_assoc, if_pos, if_neg, -Int.not_lt, -Int.not_le, -Nat.not_lt, -Nat.not_le, -List.length_flatMap, ref09_rounds.c, hne]
  refine while_w (fun f e m x => ∃ (q : List Int) (k : Int), e 0 = sV cC l ∧ e 2 = .i .i64 most ∧ e 9 = .ms 4 0 frm.length 1 ∧ e 10 = .i .i64 k ∧ 5 ≤ x ∧ m 4 = some (.cells (q.flatMap cI) false) ∧
    q.length = frm.length ∧ SmallM most q ∧ runC (f + 1) l most q k = lmC l frm most ∧ roomC most q ≤ f ∧ 0 ≤ k ∧ k + 60 * f ≤ 120000000) (roomC most frm) ?_ ?_
  · refine ⟨frm, 0, ?_⟩
    simp +contextual (disch := omega) [Nat.add_assoc, Int.add_assoc, if_pos, if_neg, -Int.not_lt, -Int.not_le, -Nat.not_lt, -Nat.not_le, -List.length_flatMap]
    exact ⟨hf, rfl, by omega⟩
  · rintro f e m x ⟨q, k, g0, g2, g9, g10, gx, m2, hql, hqs, hrun, hrm, hk0, hkf⟩
    simp +contextual (disch := omega) [Nat.add_assoc, Int.add_assoc, if_pos, if_neg, -Int.not_lt, -Int.not_le, -Nat.not_lt, -Nat.not_le, -List.length_flatMap, ref09_rounds.b2, g0, g2, g9, g10, m2]
    refine for_w (fun i e m x => ∃ p, p = (l.take i).foldl stepC q ∧ e 0 = sV cC l ∧ e 2 = .i .i64 most ∧ e 9 = .ms 4 0 frm.length 1 ∧ e 10 = .i .i64 (k + i) ∧ e 12 = .i .i64 i ∧ e 11 = .b (!decide (p = q)) ∧ 5 ≤ x ∧ m 4 = some (.cells (p.flatMap cI) false)) l.length ?_ ?_ ?_
    · refine ⟨q, rfl, ?_⟩
      simp +contextual (disch := omega) [Nat.add_assoc, Int.add_assoc, if_pos, if_neg, -Int.not_lt, -Int.not_le, -Nat.not_lt, -Nat.not_le, -List.length_flatMap, g0, g2, g9, g10, m2]
      omega
    · rintro i e m x hi ⟨p, hp, q0, q2, q9, q10, q12, q11, qx, qm⟩
      have hok := hc l[i] (List.getElem_mem hi)
      have hto := okC_to hok
      have hsm := fold_small (n := frm.length) hqs (fun c h => hc c (List.mem_of_mem_take h)) (l := l.take i)
      have hlt : (l.take i).length ≤ 60 := by rw [List.length_take]; omega
      have hpl : p.length = frm.length := by rw [hp, fold_len, hql]
      rw [← hp] at hsm
      have hps : SmallM 1100000 p := hsm.mono (by omega)
      have hle : LeM q p := hp ▸ fold_le _ _
      have hfo : (l.take (i + 1)).foldl stepC q = stepC p l[i] := by rw [take_fold hi, hp]
      rw [hfo]
      have hA := ref08_Asks.a (hps.nats (by omega)) (c := l[i]) (by rw [hpl]; exact hok) (by omega)
      have hA' : Ans ctx ref08_Asks.n [.ag (cC l[i]), .sl (p.flatMap cI) frm.length] (.i .i64 (asksS p l[i])) := by
        have e : sV cI p = .sl (p.flatMap cI) frm.length := by unfold sV; rw [hpl]
        rw [← e]; exact hA
      have hv := getD_get p 0 (by omega : l[i].to.var.toNat < p.length)
      have hcl : (p.flatMap cI).length = frm.length := by rw [flatI_len, hpl]
      have htk := flatI_all hpl.symm
      have hvb := hps l[i].to.var.toNat
      rw [hv] at hvb
      by_cases hlt : p[l[i].to.var.toNat] < asksS p l[i]
      · have hst : stepC p l[i] = p.set l[i].to.var.toNat (asksS p l[i]) := by unfold stepC; rw [hv, if_pos hlt]
        have hnq : stepC p l[i] ≠ q := by
          intro h
          have h1 := step_ne hle (by omega) h
          have h2 : (p.set l[i].to.var.toNat (asksS p l[i])).getD l[i].to.var.toNat 0 = p.getD l[i].to.var.toNat 0 := by rw [← hst, h, h1]
          rw [getD_set, if_pos ⟨rfl, by omega⟩, hv] at h2
          omega
        simp +contextual (disch := omega) [Nat.add_assoc, Int.add_assoc, if_pos, if_neg, -Int.not_lt, -Int.not_le, -Nat.not_lt, -Nat.not_le, -List.length_flatMap, ref09_rounds.b1, q0, q2, q9, q10, q12, q11, qm, hi, ansK hA', hcl, htk, flatI_get, hnq]
        rw [hst]; exact flatI_set (by omega)
      · have hst : stepC p l[i] = p := by unfold stepC; rw [hv, if_neg hlt]
        rw [hst]
        simp +contextual (disch := omega) [Nat.add_assoc, Int.add_assoc, if_pos, if_neg, -Int.not_lt, -Int.not_le, -Nat.not_lt, -Nat.not_le, -List.length_flatMap, ref09_rounds.b1, q0, q2, q9, q10, q12, q11, qm, hi, ansK hA', hcl, htk, flatI_get]
    · rintro e m x ⟨p, hp, q0, q2, q9, q10, q12, q11, qx, qm⟩
      rw [List.take_length] at hp
      have hpl : p.length = frm.length := by rw [hp, fold_len, hql]
      have hcl : (p.flatMap cI).length = frm.length := by rw [flatI_len, hpl]
      have htk := flatI_all hpl.symm
      have hgr := ref09_great.a (m := p) (most := most) (by omega)
      have hsl : sV cI p = .sl (p.flatMap cI) frm.length := by unfold sV; rw [hpl]
      rw [hsl] at hgr
      have hle : LeM q p := hp ▸ fold_le _ _
      have hrs := small_round hqs hl hc
      unfold runC at hrun
      have hpr : roundC l q = p := hp.symm
      rw [hpr] at hrun hrs
      cases hg : greatC most p with
      | true =>
        rw [hg] at hgr hrun
        simp only [if_true] at hrun
        simp +contextual (disch := omega) [Nat.add_assoc, Int.add_assoc, if_pos, if_neg, -Int.not_lt, -Int.not_le, -Nat.not_lt, -Nat.not_le, -List.length_flatMap, ref09_rounds.b1, q0, q2, q9, q10, q12, q11, qm, hcl, htk, ansK hgr]
        rw [← hrun]
        rfl
      | false =>
        rw [hg] at hgr hrun
        by_cases hq : p = q
        · simp only [hq, Bool.false_eq_true, if_false, if_true] at hrun
          rw [hq] at hgr hcl htk
          simp +contextual (disch := omega) [Nat.add_assoc, Int.add_assoc, if_pos, if_neg, -Int.not_lt, -Int.not_le, -Nat.not_lt, -Nat.not_le, -List.length_flatMap, ref09_rounds.b1, q0, q2, q9, q10, q12, q11, qm, hcl, htk, ansK hgr, hq]
          rw [← hrun]
          simp only [runV, sV, hql]
        · simp only [hq, Bool.false_eq_true, if_false] at hrun
          have hlt := room_lt (most := most) (by omega) hle (fun e => hq e.symm) hg
          obtain ⟨g, rfl⟩ : ∃ g, f = g + 1 := ⟨f - 1, by omega⟩
          have hrs2 : SmallM most p := fun i => ⟨(hrs i).1, (great_false hm.1).1 hg i⟩
          simp +contextual (disch := omega) [Nat.add_assoc, Int.add_assoc, if_pos, if_neg, -Int.not_lt, -Int.not_le, -Nat.not_lt, -Nat.not_le, -List.length_flatMap, ref09_rounds.b1, q0, q2, q9, q10, q12, q11, qm, hcl, htk, ansK hgr, hq]
          exact ⟨g, by omega, p, rfl, by omega, hrs2, hrun, by omega, by omega, by omega⟩
/-- What Solve tells. -/
def solveV (vars : Int) (l : List C) : V := if rightC vars l = true then .tu [sV cI (solveC vars.toNat l).1, .b (solveC vars.toNat l).2.1, .i .i64 (solveC vars.toNat l).2.2, .i .i64 0] else .tu [sV cI [], .b false, .i .i64 0, .i .i64 1]
theorem zeros_noughts (n : Nat) : zeros [V.i .i64 0] n = (noughts n).flatMap cI := by
  induction n with
  | zero => rfl
  | succ n ih => rw [zeros, ih]; unfold noughts; rw [List.replicate_succ]; rfl
theorem noughts_small {n : Nat} {X : Int} (h : 0 ≤ X) : SmallM X (noughts n) := fun i => by rw [noughts_at]; exact ⟨Int.le_refl _, h⟩
theorem solve_Solve.a (vars : Int) (l : List C) (hl : l.length ≤ 9223372036854775807) (hf : ∀ c ∈ l, c.frm.length ≤ 9223372036854775807) : Ans ctx solve_Solve.n [.i .i64 vars, sV cC l] (solveV vars l) := by
  refine ans solve_Solve.f ?_
  have hr := horn_Right.a vars l hl hf
  unfold solveV
  cases h1 : rightC vars l with
  | false => simp +contextual (disch := omega) [Nat.add_assoc, Int.add_assoc, if_pos, if_neg, -Int.not_lt, -Int.not_le, -Nat.not_lt, -Nat.not_le, -List.length_flatMap, solve_Solve.c, ansK hr, h1]
  | true =>
    obtain ⟨r1, r2, r3, r4⟩ := right_ok h1
    obtain ⟨n, rfl⟩ : ∃ n : Nat, vars = n := ⟨vars.toNat, by omega⟩
    have hb := mostS_bd r4
    have b1 : 0 ≤ ((n : Int) - 1) * mostS l := Int.mul_nonneg (by omega) hb.1
    have b2 : ((n : Int) - 1) * mostS l ≤ 15 * 1000 := Int.mul_le_mul (by omega) hb.2 hb.1 (by omega)
    have hR := solve_run.a (l := l) (frm := noughts n) (most := ((n : Int) - 1) * mostS l) r3 (by rw [noughts_len]; omega) (by rw [noughts_len]; exact r4) (by omega) (noughts_small b1)
    have e1 : lmC l (noughts n) (((n : Int) - 1) * mostS l) = solveC n l := by unfold solveC limC; rw [Int.zero_add]
    have e2 : sV cI (noughts n) = .sl ((noughts n).flatMap cI) n := by unfold sV; rw [noughts_len]
    rw [e1, e2, runV] at hR
    have hcl : ((noughts n).flatMap cI).length = n := by rw [flatI_len, noughts_len]
    have htk := flatI_all (noughts_len n).symm
    simp +contextual (disch := omega) [Nat.add_assoc, Int.add_assoc, if_pos, if_neg, -Int.not_lt, -Int.not_le, -Nat.not_lt, -Nat.not_le, -List.length_flatMap, solve_Solve.c, ansK hr, h1, ansK (solve_limit.a h1), zeros_noughts, hcl, htk, ansK hR]
theorem ref09_Solve.a (vars : Int) (l : List C) (hl : l.length ≤ 9223372036854775807) (hf : ∀ c ∈ l, c.frm.length ≤ 9223372036854775807) : Ans ctx ref09_Solve.n [.i .i64 vars, sV cC l] (solveV vars l) := by
  refine ans ref09_Solve.f ?_
  have hr := ref08_Right.a vars l hl hf
  unfold solveV
  cases h1 : rightC vars l with
  | false => simp +contextual (disch := omega) [Nat.add_assoc, Int.add_assoc, if_pos, if_neg, -Int.not_lt, -Int.not_le, -Nat.not_lt, -Nat.not_le, -List.length_flatMap, ref09_Solve.c, ansK hr, h1]
  | true =>
    obtain ⟨r1, r2, r3, r4⟩ := right_ok h1
    obtain ⟨n, rfl⟩ : ∃ n : Nat, vars = n := ⟨vars.toNat, by omega⟩
    have hb := mostS_bd r4
    have b1 : 0 ≤ ((n : Int) - 1) * mostS l := Int.mul_nonneg (by omega) hb.1
    have b2 : ((n : Int) - 1) * mostS l ≤ 15 * 1000 := Int.mul_le_mul (by omega) hb.2 hb.1 (by omega)
    have hR := ref09_rounds.a (l := l) (frm := noughts n) (most := ((n : Int) - 1) * mostS l) r3 (by rw [noughts_len]; omega) (by rw [noughts_len]; exact r4) (by omega) (noughts_small b1)
    have e1 : lmC l (noughts n) (((n : Int) - 1) * mostS l) = solveC n l := by unfold solveC limC; rw [Int.zero_add]
    have e2 : sV cI (noughts n) = .sl ((noughts n).flatMap cI) n := by unfold sV; rw [noughts_len]
    rw [e1, e2, runV] at hR
    have hcl : ((noughts n).flatMap cI).length = n := by rw [flatI_len, noughts_len]
    have htk := flatI_all (noughts_len n).symm
    simp +contextual (disch := omega) [Nat.add_assoc, Int.add_assoc, if_pos, if_neg, -Int.not_lt, -Int.not_le, -Nat.not_lt, -Nat.not_le, -List.length_flatMap, ref09_Solve.c, ansK hr, h1, ansK (ref09_Limit.a h1), zeros_noughts, hcl, htk, ansK hR]
end Pi
