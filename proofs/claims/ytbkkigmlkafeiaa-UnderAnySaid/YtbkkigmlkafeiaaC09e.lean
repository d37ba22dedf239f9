/- Contracts: the least model (layer 9): the document's rounds; Solve and From, on both sides. -/
import Derived.Test.YtbkkigmlkafeiaaC08f
import Derived.Test.YtbkkigmlkafeiaaC02a
import Derived.Test.YtbkkigmlkafeiaaC06f
import Derived.Test.YtbkkigmlkafeiaaEnc
set_option linter.unusedSimpArgs false
set_option linter.unusedVariables false
namespace Pi
theorem ref09_Limit.a {vars : Int} {l : List C} (hr : rightC vars l = true) : Ans ctx ref09_Limit.n [.i .i64 vars, sV cC l] (.i .i64 ((vars - 1) * mostS l)) := by
  refine ans ref09_Limit.f ?_
  obtain ⟨r1, r2, r3, r4⟩ := right_ok hr
  have hm := ref08_Most.a vars l (by omega) (fun c hc => Nat.le_trans (okC_six (r4 c hc)) (by omega))
  rw [mostV, if_pos hr] at hm
  have hb := mostS_bd r4
  have h1 : 0 ≤ (vars - 1) * mostS l := Int.mul_nonneg (by omega) hb.1
  have h2 : (vars - 1) * mostS l ≤ 15 * 1000 := Int.mul_le_mul (by omega) hb.2 hb.1 (by omega)
  simp +contextual (disch := omega) [Nat.add_assoc, Int.add_assoc, if_pos, if_neg, -Int.not_lt, -Int.not_le, -Nat.not_lt, -Nat.not_le, -List.length_flatMap, ref09_Limit.c, ansK hm]
theorem ref09_great.a {m : List Int} {most : Int} (hl : m.length ≤ 1000) : Ans ctx ref09_great.n [sV cI m, .i .i64 most] (.b (greatC most m)) := by
  refine ans ref09_great.f ?_
  simp +contextual (disch := omega) [Nat.add_assoc, Int.add_assoc, if_pos, if_neg, -Int.not_lt, -Int.not_le, -Nat.not_lt, -Nat.not_le, -List.length_flatMap, ref09_great.c]
  refine for_w (fun i e m' x => e 0 = sV cI m ∧ e 1 = .i .i64 most ∧ e 5 = .i .i64 i ∧ greatC most (m.take i) = false) m.length ?_ ?_ ?_
  · simp +contextual (disch := omega) [Nat.add_assoc, Int.add_assoc, if_pos, if_neg, -Int.not_lt, -Int.not_le, -Nat.not_lt, -Nat.not_le, -List.length_flatMap]
    rfl
  · rintro i e m' x hi ⟨g1, g2, g3, g4⟩
    have h1 : greatC most (m.take (i + 1)) = (greatC most (m.take i) || decide (most < m[i])) := take_any hi
    rw [g4] at h1
    by_cases h : most < m[i]
    · have : greatC most m = true := any_at hi (by simpa using h)
      simp +contextual (disch := omega) [Nat.add_assoc, Int.add_assoc, if_pos, if_neg, -Int.not_lt, -Int.not_le, -Nat.not_lt, -Nat.not_le, -List.length_flatMap, ref09_great.b1, g1, g2, g3, hi, this]
    · have h2 : greatC most (m.take (i + 1)) = false := by rw [h1]; simp; omega
      simp +contextual (disch := omega) [Nat.add_assoc, Int.add_assoc, if_pos, if_neg, -Int.not_lt, -Int.not_le, -Nat.not_lt, -Nat.not_le, -List.length_flatMap, ref09_great.b1, g1, g2, g3, hi, h2]
  · rintro e m' x ⟨g1, g2, g3, g4⟩
    rw [List.take_length] at g4
    simp +contextual (disch := omega) [Nat.add_assoc, Int.add_assoc, if_pos, if_neg, -Int.not_lt, -Int.not_le, -Nat.not_lt, -Nat.not_le, -List.length_flatMap, ref09_great.b1, g1, g2, g3, g4]
theorem fold_le (l : List C) (m : List Int) : LeM m (l.foldl stepC m) := round_le l m
theorem step_ne {m a : List Int} {c : C} (h : LeM m a) (hl : m.length = a.length) : stepC a c = m → a = m := by
  intro e
  have h1 := step_le a c
  rw [e] at h1
  exact LeM.anti hl.symm h1 h
theorem ref09_rounds.a {l : List C} {frm : List Int} {most : Int} (hl : l.length ≤ 60) (hn : 1 ≤ frm.length ∧ frm.length ≤ 16) (hc : ∀ c ∈ l, okC frm.length c = true) (hm : 0 ≤ most ∧ most ≤ 100000) (hf : SmallM most frm) :
    Ans ctx ref09_rounds.n [sV cC l, sV cI frm, .i .i64 most] (runV (lmC l frm most)) := by
  refine ans ref09_rounds.f ?_
  have hroom : roomC most frm ≤ 1700000 := by
    have := room_bd hm.1 (m := frm) (fun i => (hf i).1)
    have h5 : frm.length * (most.toNat + 1) ≤ 16 * 100001 := Nat.mul_le_mul hn.2 (by omega)
    omega
  have hne : frm ≠ [] := by intro h; rw [h] at hn; simp at hn
  simp +contextual (disch := omega) [Nat.add_assoc, Int.add_assoc, if_pos, if_neg, -Int.not_lt, -Int.not_le, -Nat.not_lt, -Nat.not_le, -List.length_flatMap, ref09_rounds.c, hne]
  refine while_w (fun f e m x => ∃ (q : List Int) (k : Int), e 0 = sV cC l ∧ e 2 = .i .i64 most ∧ e 9 = .ms 4 0 frm.length 1 ∧ e 10 = .i .i64 k ∧ 5 ≤ x ∧ m 4 = some (.cells (q.flatMap cI) false) ∧
    q.length = frm.length ∧ SmallM most q ∧ runC (f + 1) l most q k = lmC l frm most ∧ roomC most q ≤ f ∧ 0 ≤ k ∧ k + 60 * f ≤ 120000000) (roomC most frm) ?_ ?_
  · refine ⟨frm, 0, ?_⟩
    simp +contextual (disch := omega) [Nat.add_assoc, Int.add_assoc, if_pos, if_neg, -Int.not_lt, -Int.not_le, -Nat.not_lt, -Nat.not_le, -List.length_flatMap]
    exact ⟨hf, rfl, by omega⟩
  · rintro f e m x ⟨q, k, g0, g2, g9, g10, gx, m2, hql, hqs, hrun, hrm, hk0, hkf⟩
    simp +contextual (disch := omega) [Nat.add_assoc, Int.add_assoc, if_pos, if_neg, -Int.not_lt, -Int.not_le, -Nat.not_lt, -Nat.not_le, -List.length_flatMap, ref09_rounds.b2, g0, g2, g9, g10, m2]
    refine for_w (fun i e m x => ∃ p, p = (l.take i).foldl stepC q ∧ e 0 = sV cC l ∧ e 2 = .i .i64 most ∧ e 9 = .ms 4 0 frm.length 1 ∧ e 10 = .i .i64 (k + i) ∧ e 12 = .i .i64 i ∧ e 11 = .b (!decide (p = q)) ∧ 5 ≤ x ∧ m 4 = some (.cells (p.flatMap cI) false)) l.length ?_ ?_ ?_
    · refine ⟨q, rfl, ?_⟩
      simp +contextual (disch := omega) [Nat.add_assoc, Int.add_assoc, if_pos, if_neg, -Int.not_lt, -Int.not_le, -Nat.not_lt, -Nat.not_le, -List.length_flatMap, g0, g2, g9, g10, m2]
      omega
    · rintro i e m x hi ⟨p, hp, q0, q2, q9, q10, q12, q11, qx, qm⟩
      have hok := hc l[i] (List.getElem_mem hi)
      have hto := okC_to hok
      have hsm := fold_small (n := frm.length) hqs (fun c h => hc c (List.mem_of_mem_take h)) (l := l.take i)
      have hlt : (l.take i).length ≤ 60 := by rw [List.length_take]; omega
      have hpl : p.length = frm.length := by rw [hp, fold_len, hql]
      rw [← hp] at hsm
      have hps : SmallM 1100000 p := hsm.mono (by omega)
      have hle : LeM q p := hp ▸ fold_le _ _
      have hfo : (l.take (i + 1)).foldl stepC q = stepC p l[i] := by rw [take_fold hi, hp]
      rw [hfo]
      have hA := ref08_Asks.a (hps.nats (by omega)) (c := l[i]) (by rw [hpl]; exact hok) (by omega)
      have hA' : Ans ctx ref08_Asks.n [.ag (cC l[i]), .sl (p.flatMap cI) frm.length] (.i .i64 (asksS p l[i])) := by
        have e : sV cI p = .sl (p.flatMap cI) frm.length := by unfold sV; rw [hpl]
        rw [← e]; exact hA
      have hv := getD_get p 0 (by omega : l[i].to.var.toNat < p.length)
      have hcl : (p.flatMap cI).length = frm.length := by rw [flatI_len, hpl]
      have htk := flatI_all hpl.symm
      have hvb := hps l[i].to.var.toNat
      rw [hv] at hvb
      by_cases hlt : p[l[i].to.var.toNat] < asksS p l[i]
      · have hst : stepC p l[i] = p.set l[i].to.var.toNat (asksS p l[i]) := by unfold stepC; rw [hv, if_pos hlt]
        have hnq : stepC p l[i] ≠ q := by
          intro h
          have h1 := step_ne hle (by omega) h
          have h2 : (p.set l[i].to.var.toNat (asksS p l[i])).getD l[i].to.var.toNat 0 = p.getD l[i].to.var.toNat 0 := by rw [← hst, h, h1]
          rw [getD_set, if_pos ⟨rfl, by omega⟩, hv] at h2
          omega
        simp +contextual (disch := omega) [Nat.add_assoc, Int.add_assoc, if_pos, if_neg, -Int.not_lt, -Int.not_le, -Nat.not_lt, -Nat.not_le, -List.length_flatMap, ref09_rounds.b1, q0, q2, q9, q10, q12, q11, qm, hi, ansK hA', hcl, htk, flatI_get, hnq]
        rw [hst]; exact flatI_set (by omega)
      · have hst : stepC p l[i] = p := by unfold stepC; rw [hv, if_neg hlt]
        rw [hst]
        simp +contextual (disch := omega) [Nat.add_assoc, Int.add_assoc, if_pos, if_neg, -Int.not_lt, -Int.not_le, -Nat.not_lt, -Nat.not_le, -List.length_flatMap, ref09_rounds.b1, q0, q2, q9, q10, q12, q11, qm, hi, ansK hA', hcl, htk, flatI_get]
    · rintro e m x ⟨p, hp, q0, q2, q9, q10, q12, q11, qx, qm⟩
      rw [List.take_length] at hp
      have hpl : p.length = frm.length := by rw [hp, fold_len, hql]
      have hcl : (p.flatMap cI).length = frm.length := by rw [flatI_len, hpl]
      have htk := flatI_all hpl.symm
      have hgr := ref09_great.a (m := p) (most := most) (by omega)
      have hsl : sV cI p = .sl (p.flatMap cI) frm.length := by unfold sV; rw [hpl]
      rw [hsl] at hgr
      have hle : LeM q p := hp ▸ fold_le _ _
      have hrs := small_round hqs hl hc
      unfold runC at hrun
      have hpr : roundC l q = p := hp.symm
      rw [hpr] at hrun hrs
      cases hg : greatC most p with
      | true =>
        rw [hg] at hgr hrun
        simp only [if_true] at hrun
        simp +contextual (disch := omega) [Nat.add_assoc, Int.add_assoc, if_pos, if_neg, -Int.not_lt, -Int.not_le, -Nat.not_lt, -Nat.not_le, -List.length_flatMap, ref09_rounds.b1, q0, q2, q9, q10, q12, q11, qm, hcl, htk, ansK hgr]
        rw [← hrun]
        rfl
      | false =>
        rw [hg] at hgr hrun
        by_cases hq : p = q
        · simp only [hq, Bool.false_eq_true, if_false, if_true] at hrun
          rw [hq] at hgr hcl htk
          simp +contextual (disch := omega) [Nat.add_assoc, Int.add_assoc, if_pos, if_neg, -Int.not_lt, -Int.not_le, -Nat.not_lt, -Nat.not_le, -List.length_flatMap, ref09_rounds.b1, q0, q2, q9, q10, q12, q11, qm, hcl, htk, ansK hgr, hq]
          rw [← hrun]
          simp only [runV, sV, hql]
        · simp only [hq, Bool.false_eq_true, if_false] at hrun
          have hlt := room_lt (most := most) (by omega) hle (fun e => hq e.symm) hg
          obtain ⟨g, rfl⟩ : ∃ g, f = g + 1 := ⟨f - 1, by omega⟩
          have hrs2 : SmallM most p := fun i => ⟨(hrs i).1, (great_false hm.1).1 hg i⟩
          simp +contextual (disch := omega) [Nat.add_assoc, Int.add_assoc, if_pos, if_neg, -Int.not_lt, -Int.not_le, -Nat.not_lt, -Nat.not_le, -List.length_flatMap, ref09_rounds.b1, q0, q2, q9, q10, q12, q11, qm, hcl, htk, ansK hgr, hq]
          exact ⟨g, by omega, p, rfl, by omega, hrs2, hrun, by omega, by omega, by omega⟩
/-- What Solve tells. -/
def solveV (vars : Int) (l : List C) : V := if rightC vars l = true then .tu [sV cI (solveC vars.toNat l).1, .b (solveC vars.toNat l).2.1, .i .i64 (solveC vars.toNat l).2.2, .i .i64 0] else .tu [sV cI [], .b false, .i .i64 0, .i .i64 1]
theorem zeros_noughts (n : Nat) : zeros [V.i .i64 0] n = (noughts n).flatMap cI := by
  induction n with
  | zero => rfl
  | succ n ih => rw [zeros, ih]; unfold noughts; rw [List.replicate_succ]; rfl
theorem noughts_small {n : Nat} {X : Int} (h : 0 ≤ X) : SmallM X (noughts n) := fun i => by rw [noughts_at]; exact ⟨Int.le_refl _, h⟩
theorem solve_Solve.a (vars : Int) (l : List C) (hl : l.length ≤ 9223372036854775807) (hf : ∀ c ∈ l, c.frm.length ≤ 9223372036854775807) : Ans ctx solve_Solve.n [.i .i64 vars, sV cC l] (solveV vars l) := by
  refine ans solve_Solve.f ?_
  have hr := horn_Right.a vars l hl hf
  unfold solveV
  cases h1 : rightC vars l with
  | false => simp +contextual (disch := omega) [Nat.add_assoc, Int.add_assoc, if_pos, if_neg, -Int.not_lt, -Int.not_le, -Nat.not_lt, -Nat.not_le, -List.length_flatMap, solve_Solve.c, ansK hr, h1]
  | true =>
    obtain ⟨r1, r2, r3, r4⟩ := right_ok h1
    obtain ⟨n, rfl⟩ : ∃ n : Nat, vars = n := ⟨vars.toNat, by omega⟩
    have hb := mostS_bd r4
    have b1 : 0 ≤ ((n : Int) - 1) * mostS l := Int.mul_nonneg (by omega) hb.1
    have b2 : ((n : Int) - 1) * mostS l ≤ 15 * 1000 := Int.mul_le_mul (by omega) hb.2 hb.1 (by omega)
    have hR := solve_run.a (l := l) (frm := noughts n) (most := ((n : Int) - 1) * mostS l) r3 (by rw [noughts_len]; omega) (by rw [noughts_len]; exact r4) (by omega) (noughts_small b1)
    have e1 : lmC l (noughts n) (((n : Int) - 1) * mostS l) = solveC n l := by unfold solveC limC; rw [Int.zero_add]
    have e2 : sV cI (noughts n) = .sl ((noughts n).flatMap cI) n := by unfold sV; rw [noughts_len]
    rw [e1, e2, runV] at hR
    have hcl : ((noughts n).flatMap cI).length = n := by rw [flatI_len, noughts_len]
    have htk := flatI_all (noughts_len n).symm
    simp +contextual (disch := omega) [Nat.add_assoc, Int.add_assoc, if_pos, if_neg, -Int.not_lt, -Int.not_le, -Nat.not_lt, -Nat.not_le, -List.length_flatMap, solve_Solve.c, ansK hr, h1, ansK (solve_limit.a h1), zeros_noughts, hcl, htk, ansK hR]
theorem ref09_Solve.a (vars : Int) (l : List C) (hl : l.length ≤ 9223372036854775807) (hf : ∀ c ∈ l, c.frm.length ≤ 9223372036854775807) : Ans ctx ref09_Solve.n [.i .i64 vars, sV cC l] (solveV vars l) := by
  refine ans ref09_Solve.f ?_
  have hr := ref08_Right.a vars l hl hf
  unfold solveV
  cases h1 : rightC vars l with
  | false => simp +contextual (disch := omega) [Nat.add_assoc, Int.add_assoc, if_pos, if_neg, -Int.not_lt, -Int.not_le, -Nat.not_lt, -Nat.not_le, -List.length_flatMap, ref09_Solve.c, ansK hr, h1]
  | true =>
    obtain ⟨r1, r2, r3, r4⟩ := right_ok h1
    obtain ⟨n, rfl⟩ : ∃ n : Nat, vars = n := ⟨vars.toNat, by omega⟩
    have hb := mostS_bd r4
    have b1 : 0 ≤ ((n : Int) - 1) * mostS l := Int.mul_nonneg (by omega) hb.1
    have b2 : ((n : Int) - 1) * mostS l ≤ 15 * 1000 := Int.mul_le_mul (by omega) hb.2 hb.1 (by omega)
    have hR := ref09_rounds.a (l := l) (frm := noughts n) (most := ((n : Int) - 1) * mostS l) r3 (by rw [noughts_len]; omega) (by rw [noughts_len]; exact r4) (by omega) (noughts_small b1)
    have e1 : lmC l (noughts n) (((n : Int) - 1) * mostS l) = solveC n l := by unfold solveC limC; rw [Int.zero_add]
    have e2 : sV cI (noughts n) = .sl ((noughts n).flatMap cI) n := by unfold sV; rw [noughts_len]
    rw [e1, e2, runV] at hR
    have hcl : ((noughts n).flatMap cI).length = n := by rw [flatI_len, noughts_len]
    have htk := flatI_all (noughts_len n).symm
    simp +contextual (disch := omega) [Nat.add_assoc, Int.add_assoc, if_pos, if_neg, -Int.not_lt, -Int.not_le, -Nat.not_lt, -Nat.not_le, -List.length_flatMap, ref09_Solve.c, ansK hr, h1, ansK (ref09_Limit.a h1), zeros_noughts, hcl, htk, ansK hR]
end Pi


set_option linter.unusedSimpArgs false
set_option linter.unusedVariables false
namespace Pi
end Pi


set_option linter.unusedSimpArgs false
set_option linter.unusedVariables false
namespace Pi
end Pi


set_option linter.unusedSimpArgs false
set_option linter.unusedVariables false
namespace Pi
theorem zeros_cI (n : Nat) : zeros [V.i .i64 0] n = (List.replicate n (0 : Int)).flatMap cI := by
  induction n with
  | zero => rfl
  | succ n ih => simp [zeros, ih, List.replicate_succ]
end Pi


set_option linter.unusedSimpArgs false
set_option linter.unusedVariables false
namespace Pi
end Pi


set_option linter.unusedSimpArgs false
set_option linter.unusedVariables false
namespace Pi
/-! Made levels are right; what is more. -/
end Pi


set_option linter.unusedSimpArgs false
set_option linter.unusedVariables false
namespace Pi
end Pi


set_option linter.unusedSimpArgs false
set_option linter.unusedVariables false
namespace Pi
end Pi


set_option linter.unusedSimpArgs false
set_option linter.unusedVariables false
namespace Pi
end Pi


set_option linter.unusedSimpArgs false
set_option linter.unusedVariables false
namespace Pi
end Pi


set_option linter.unusedSimpArgs false
set_option linter.unusedVariables false
namespace Pi
end Pi


set_option linter.unusedSimpArgs false
set_option linter.unusedVariables false
namespace Pi
/-- The k-th case of so many parameters. -/
def caseP (k n : Nat) : List Bool := (List.range n).map fun i => decide (k / 2 ^ i % 2 = 1)
theorem caseP_len (k n : Nat) : (caseP k n).length = n := by simp [caseP]
theorem caseP_at (k n i : Nat) (hi : i < n) : (caseP k n)[i]? = some (decide (k / 2 ^ i % 2 = 1)) := by simp [caseP, hi]
theorem shr_nat {k i : Nat} (hi : i ≤ 64) : bin .shr (.i .u64 (k : Nat)) (.i .i64 (i : Nat)) = some (.i .u64 ((k / 2 ^ i : Nat) : Int)) := by
  have e : min ((i : Int)).toNat (Go.IntKind.u64.bits) = i := by simp [Go.IntKind.bits]; omega
  have h : ¬ ((i : Int) < 0) := by omega
  simp only [bin, h, if_false, e]
  congr 2
  rw [Int.fdiv_eq_ediv_of_nonneg _ (Int.le_of_lt (Int.pow_pos (by omega)))]
  norm_cast
theorem and1u {a : Nat} (ha : a < 1000) : bin .and (.i .u64 (a : Nat)) (.i .u64 1) = some (.i .u64 ((a % 2 : Nat) : Int)) := by
  simp only [bin, binI, if_true]
  congr 2
  have h1 : (BitVec.ofInt 64 a &&& BitVec.ofInt 64 1).toNat = a % 2 := by
    rw [BitVec.toNat_and]
    have e2 : (BitVec.ofInt 64 1).toNat = 2 ^ 1 - 1 := by decide
    rw [e2, Nat.and_two_pow_sub_one_eq_mod, BitVec.toNat_ofInt]
    have : (2 : Nat) ^ 64 = 18446744073709551616 := by decide
    omega
  have e3 : Go.IntKind.u64.bits = 64 := rfl
  rw [e3, h1]
  simp [Go.IntKind.wrap, Go.IntKind.signed, Go.IntKind.bits]
  omega
theorem shl1 {n : Nat} (hn : n ≤ 5) : bin .shl (.i .u64 1) (.i .i64 (n : Nat)) = some (.i .u64 ((2 ^ n : Nat) : Int)) ∧ bin .shl (.i .i64 1) (.i .i64 (n : Nat)) = some (.i .i64 ((2 ^ n : Nat) : Int)) := by
  have : n = 0 ∨ n = 1 ∨ n = 2 ∨ n = 3 ∨ n = 4 ∨ n = 5 := by omega
  rcases this with rfl | rfl | rfl | rfl | rfl | rfl <;> exact ⟨rfl, rfl⟩
theorem pow32 {n : Nat} (hn : n ≤ 5) : 2 ^ n ≤ 32 := by
  have : n = 0 ∨ n = 1 ∨ n = 2 ∨ n = 3 ∨ n = 4 ∨ n = 5 := by omega
  rcases this with rfl | rfl | rfl | rfl | rfl | rfl <;> decide
theorem ref07_Case.a (k n : Nat) (hk : k < 1000) (hn : n ≤ 5) : Ans ctx ref07_Case.n [.i .i64 k, .i .i64 n] (sV cB (caseP k n)) := by
  refine ans ref07_Case.f ?_
  simp +contextual (disch := omega) [Nat.add_assoc, Int.add_assoc, if_pos, if_neg, -Int.not_lt, -Int.not_le, -Nat.not_lt, -Nat.not_le, -List.length_flatMap, ref07_Case.c]
  refine for_w (fun i e m x => e 0 = .i .i64 (k / 2 ^ i : Nat) ∧ e 1 = .i .i64 n ∧ e 6 = .i .i64 i ∧ Bf m (e 5) cB 1 ((caseP k n).take i) 0 x) n ?_ ?_ ?_
  · simp +contextual (disch := omega) [Nat.add_assoc, Int.add_assoc, if_pos, if_neg, -Int.not_lt, -Int.not_le, -Nat.not_lt, -Nat.not_le, -List.length_flatMap]
    exact Bf.nil
  · rintro i e m x hi ⟨g0, g1, g6, g5⟩
    generalize hB : e 5 = B at g5
    have hle : k / 2 ^ i ≤ k := Nat.div_le_self _ _
    have hs : (caseP k n).take (i + 1) = (caseP k n).take i ++ [decide (k / 2 ^ i % 2 = 1)] := by
      rw [List.take_add_one, caseP_at k n i hi]; rfl
    have hd : k / 2 ^ (i + 1) = k / 2 ^ i / 2 := by rw [Nat.pow_succ, Nat.div_div_eq_div_mul]
    have hln : ((caseP k n).take i).length ≤ 5 := by rw [List.length_take]; omega
    rw [hd, hs]
    generalize k / 2 ^ i = q at *
    have hdq : decide ((q : Int) % 2 = 1) = decide (q % 2 = 1) := by rw [decide_eq_decide]; omega
    simp +contextual (disch := omega) [Nat.add_assoc, Int.add_assoc, if_pos, if_neg, -Int.not_lt, -Int.not_le, -Nat.not_lt, -Nat.not_le, -List.length_flatMap, ref07_Case.b1, g0, g1, g6, hB, hi, Int.tmod_eq_emod_of_nonneg, Int.tdiv_eq_ediv_of_nonneg, hdq, -apV_ns]
    refine g5.ap [decide (q % 2 = 1)] (fun j h1 h2 => by simp +contextual (disch := omega) [Nat.add_assoc, Int.add_assoc, if_pos, if_neg, -Int.not_lt, -Int.not_le, -Nat.not_lt, -Nat.not_le, -List.length_flatMap]) (by omega) (by omega) rfl rfl (by simp; omega) ?_
    intro B' ws m2 z0 z1 z2 z3
    simp +contextual (disch := omega) [Nat.add_assoc, Int.add_assoc, if_pos, if_neg, -Int.not_lt, -Int.not_le, -Nat.not_lt, -Nat.not_le, -List.length_flatMap, z0, g0, g1, g6, z1.stor, z1.cells, Int.tdiv_eq_ediv_of_nonneg]
    exact z1.to rfl (by omega)
  · rintro e m x ⟨g0, g1, g6, g5⟩
    rw [List.take_of_length_le (by rw [caseP_len]; exact Nat.le_refl _)] at g5
    have hz := g5.fz24
    generalize hB : e 5 = B at g5 hz
    simp +contextual (disch := omega) [Nat.add_assoc, Int.add_assoc, if_pos, if_neg, -Int.not_lt, -Int.not_le, -Nat.not_lt, -Nat.not_le, -List.length_flatMap, ref07_Case.b1, g0, g1, g6, hB, hz]
theorem set_rep (k n i : Nat) (hi : i < n) : ((caseP k n).take i ++ List.replicate (n - i) false).set i (decide (k / 2 ^ i % 2 = 1)) = (caseP k n).take (i + 1) ++ List.replicate (n - (i + 1)) false := by
  have hl : ((caseP k n).take i).length = i := by rw [List.length_take, caseP_len]; omega
  obtain ⟨d, hd⟩ : ∃ d, n - i = d + 1 := ⟨n - i - 1, by omega⟩
  rw [List.set_append_right _ _ (by omega), hl, Nat.sub_self, hd, List.replicate_succ, List.set_cons_zero, List.take_add_one, caseP_at k n i hi, List.append_assoc, (by omega : n - (i + 1) = d)]
  rfl
theorem flatB_map (l : List Bool) : l.flatMap cB = l.map V.b := by induction l <;> simp_all [cB]
theorem flatB_len (l : List Bool) : (l.flatMap cB).length = l.length := by rw [flatB_map, List.length_map]
theorem flatB_set {l : List Bool} {j : Nat} {v : Bool} (h : j < l.length) : (l.flatMap cB).take j ++ V.b v :: (l.flatMap cB).drop (j + 1) = (l.set j v).flatMap cB := by
  rw [flatB_map, flatB_map, take_set (by rw [List.length_map]; exact h), List.map_set]
theorem zerosB (n : Nat) : zeros [V.b false] n = (List.replicate n false).flatMap cB := by
  induction n with
  | zero => rfl
  | succ n ih => rw [List.replicate_succ, List.flatMap_cons, zeros, ih]; rfl
/-- A case in memory. -/
def Zm (m : Sto) (B : V) (l : List Bool) (lo x : Nat) : Prop := (B = .ns ∧ l = []) ∨ ∃ b, B = .ms b 0 l.length 1 ∧ m b = some (.cells (l.flatMap cB) false) ∧ lo ≤ b ∧ b < x
theorem Zm.bf {m : Sto} {B : V} {l : List Bool} {lo x : Nat} (h : Zm m B l lo x) : Bf m B cB 1 l lo x := by
  rcases h with ⟨rfl, rfl⟩ | ⟨a, rfl, h1, h2, h3⟩
  · exact Bf.nil
  · exact .mem h1 rfl rfl h2 h3
set_option maxHeartbeats 1000000 in
theorem leq_All_1.w {n : Nat} (hn : n ≤ 5) {a ll x0 : Nat} {m : Sto} {K : CR → Sto → Nat → Prop} (I : Nat → Sto → Nat → Prop) (E : Sto → Nat → Prop)
    (hI : ∀ k m x, I k m x → m a = some (.cells [.i .i64 n] false)) (fr : ∀ k m x m' x', x0 ≤ x → I k m x → x ≤ x' → (∀ j, j < x → m' j = m j) → I k m' x') (h0 : I 0 m x0) (frE : ∀ m x x', E m x → x ≤ x' → E m x')
    (hs : ∀ (k : Nat), k < 2 ^ n → ∀ m y x B K', x0 ≤ y → y ≤ x → I k m y → Zm m B (caseP k n) y x → (∀ m' x', x ≤ x' → I (k + 1) m' x' → K' (.ret (.b true)) m' x') → (∀ m' x', x ≤ x' → E m' x' → K' (.ret (.b false)) m' x') →
      wpCall ctx (.fn (.yield ll) [] []) [B] m x K')
    (hd : ∀ m' x', x0 ≤ x' → I (2 ^ n) m' x' → K (.ret (.tu [])) m' x') (he : ∀ m' x', x0 ≤ x' → E m' x' → K (.ret (.tu [])) m' x') :
    wpCall ctx (.fn (.func leq_All_1.n) [] [.p a 0]) [.fn (.yield ll) [] []] m x0 K := by
  refine openg_w leq_All_1.f rfl (.inr (by simp +contextual (disch := omega) [Nat.add_assoc, Int.add_assoc, if_pos, if_neg, -Int.not_lt, -Int.not_le, -Nat.not_lt, -Nat.not_le, -List.length_flatMap])) ?_
  have ha := hI _ _ _ h0
  have hsh := (shl1 hn).1
  have h32 := pow32 hn
  obtain ⟨N, hN⟩ : ∃ N : Nat, N = 2 ^ n := ⟨_, rfl⟩
  rw [← hN] at hsh hs hd h32
  simp +contextual (disch := omega) [Nat.add_assoc, Int.add_assoc, if_pos, if_neg, -Int.not_lt, -Int.not_le, -Nat.not_lt, -Nat.not_le, -List.length_flatMap, leq_All_1.c, ha, hsh]
  refine for_w (fun k e m x => e 0 = .fn (.yield ll) [] [] ∧ e 1 = .p a 0 ∧ e 7 = .i .u64 N ∧ e 8 = .i .u64 k ∧ x0 ≤ x ∧ I k m x) N ?_ ?_ ?_
  · simp +contextual (disch := omega) [Nat.add_assoc, Int.add_assoc, if_pos, if_neg, -Int.not_lt, -Int.not_le, -Nat.not_lt, -Nat.not_le, -List.length_flatMap]
    exact fr _ _ _ _ _ (Nat.le_refl _) h0 (by omega) (fun _ _ => rfl)
  · rintro k e m x hk ⟨g0, g1, g7, g8, gx, gI⟩
    have ha := hI _ _ _ gI
    by_cases hn0 : n = 0
    · subst hn0
      simp +contextual (disch := omega) [Nat.add_assoc, Int.add_assoc, if_pos, if_neg, -Int.not_lt, -Int.not_le, -Nat.not_lt, -Nat.not_le, -List.length_flatMap, leq_All_1.b2, g0, g1, g7, g8, ha, hk]
      refine un_w ?_
      simp +contextual (disch := omega) [Nat.add_assoc, Int.add_assoc, if_pos, if_neg, -Int.not_lt, -Int.not_le, -Nat.not_lt, -Nat.not_le, -List.length_flatMap, leq_All_1.b1, g0]
      refine hs k hk _ x _ .ns _ gx (by omega) gI (.inl ⟨rfl, rfl⟩) ?_ ?_
      · intro m' x' p1 p2
        simp +contextual (disch := omega) [Nat.add_assoc, Int.add_assoc, if_pos, if_neg, -Int.not_lt, -Int.not_le, -Nat.not_lt, -Nat.not_le, -List.length_flatMap, g0, g1, g7, g8]
        exact ⟨by omega, fr _ _ _ _ _ (by omega) p2 (by omega) (fun _ _ => rfl)⟩
      · intro m' x' p1 p2
        simp +contextual (disch := omega) [Nat.add_assoc, Int.add_assoc, if_pos, if_neg, -Int.not_lt, -Int.not_le, -Nat.not_lt, -Nat.not_le, -List.length_flatMap]
        exact he _ _ (by omega) (frE _ _ _ p2 (by omega))
    · simp +contextual (disch := omega) [Nat.add_assoc, Int.add_assoc, if_pos, if_neg, -Int.not_lt, -Int.not_le, -Nat.not_lt, -Nat.not_le, -List.length_flatMap, leq_All_1.b2, g0, g1, g7, g8, ha, hk, hn0]
      refine for_w (fun i e m' x' => e 0 = .fn (.yield ll) [] [] ∧ e 1 = .p a 0 ∧ e 3 = .i .u64 k ∧ e 4 = .ms (x + 4) 0 n 1 ∧ e 7 = .i .u64 N ∧ e 8 = .i .u64 k ∧ e 14 = .i .i64 n ∧ e 15 = .i .i64 i ∧ x + 5 ≤ x' ∧ m' (x + 4) = some (.cells (((caseP k n).take i ++ List.replicate (n - i) false).flatMap cB) false) ∧ (∀ j, j < x → m' j = m j)) n ?_ ?_ ?_
      · have hzb := zerosB n
        simp +contextual (disch := omega) [Nat.add_assoc, Int.add_assoc, if_pos, if_neg, -Int.not_lt, -Int.not_le, -Nat.not_lt, -Nat.not_le, -List.length_flatMap, g0, g1, g7, g8, hzb]
      · rintro i e m' x' hi ⟨q0, q1, q3, q4, q7, q8, q14, q15, qx, ym, yj⟩
        have hsr := set_rep k n i hi
        have hln : ((caseP k n).take i ++ List.replicate (n - i) false).length = n := by
          have := caseP_len k n
          simp [List.length_take]; omega
        have hln2 : (((caseP k n).take i ++ List.replicate (n - i) false).flatMap cB).length = n := by rw [flatB_len, hln]
        have hfs := flatB_set (l := (caseP k n).take i ++ List.replicate (n - i) false) (j := i) (v := decide (k / 2 ^ i % 2 = 1)) (by omega)
        rw [hsr] at hfs
        generalize ((caseP k n).take i ++ List.replicate (n - i) false).flatMap cB = Z at *
        have hsq := shr_nat (k := k) (i := i) (by omega)
        have hle : k / 2 ^ i ≤ k := Nat.div_le_self _ _
        generalize k / 2 ^ i = q at *
        have ha1 := and1u (a := q) (by omega)
        have hdq : decide (¬ ((q % 2 : Nat) : Int) = 0) = decide (q % 2 = 1) := by rw [decide_eq_decide]; omega
        simp +contextual (disch := omega) [Nat.add_assoc, Int.add_assoc, if_pos, if_neg, -Int.not_lt, -Int.not_le, -Nat.not_lt, -Nat.not_le, -List.length_flatMap, leq_All_1.b1, q0, q1, q3, q4, q7, q8, q14, q15, ym, hi, hln2, hsq, ha1]
        have e1 : (!decide ((q : Int) % 2 = 0)) = decide (q % 2 = 1) := by
          rw [← decide_not, decide_eq_decide]; omega
        rw [e1, hfs, List.flatMap_append]
        exact ⟨by omega, rfl, yj⟩
      · rintro e m' x' ⟨q0, q1, q3, q4, q7, q8, q14, q15, qx, ym, yj⟩
        rw [Nat.sub_self, List.replicate_zero, List.append_nil, List.take_of_length_le (by rw [caseP_len]; exact Nat.le_refl _)] at ym
        simp +contextual (disch := omega) [Nat.add_assoc, Int.add_assoc, if_pos, if_neg, -Int.not_lt, -Int.not_le, -Nat.not_lt, -Nat.not_le, -List.length_flatMap, leq_All_1.b1, q0, q1, q3, q4, q7, q8, q14, q15]
        refine hs k hk _ x _ (.ms (x + 4) 0 n 1) _ gx (by omega) (fr _ _ _ _ _ gx gI (Nat.le_refl _) yj) (.inr ⟨x + 4, by rw [caseP_len], ym, by omega, by omega⟩) ?_ ?_
        · intro m2 x2 p1 p2
          simp +contextual (disch := omega) [Nat.add_assoc, Int.add_assoc, if_pos, if_neg, -Int.not_lt, -Int.not_le, -Nat.not_lt, -Nat.not_le, -List.length_flatMap, q0, q1, q7, q8]
          exact ⟨by omega, fr _ _ _ _ _ (by omega) p2 (by omega) (fun _ _ => rfl)⟩
        · intro m2 x2 p1 p2
          simp +contextual (disch := omega) [Nat.add_assoc, Int.add_assoc, if_pos, if_neg, -Int.not_lt, -Int.not_le, -Nat.not_lt, -Nat.not_le, -List.length_flatMap]
          exact he _ _ (by omega) (frE _ _ _ p2 (by omega))
  · rintro e m x ⟨g0, g1, g7, g8, gx, gI⟩
    simp +contextual (disch := omega) [Nat.add_assoc, Int.add_assoc, if_pos, if_neg, -Int.not_lt, -Int.not_le, -Nat.not_lt, -Nat.not_le, -List.length_flatMap, leq_All_1.b2, g0, g1, g7, g8]
    exact hd _ _ (by omega) (fr _ _ _ _ _ gx gI (by omega) (fun _ _ => rfl))
end Pi


set_option linter.unusedSimpArgs false
set_option linter.unusedVariables false
namespace Pi
theorem flatten_ok {l : L} {z : List Bool} {n : Nat} (hz : z.length = n) (h : RightS l n 0 = true) : flattenV l z = .tu [.ag (cF (flattenF l z)), .i .i64 0] := by
  unfold flattenV
  rw [hz, if_pos h]
end Pi


set_option linter.unusedSimpArgs false
set_option linter.unusedVariables false
namespace Pi
structure Kn where
  a : L
  b : L
  deriving Inhabited
def cK (c : Kn) : List V := cL c.a ++ cL c.b
@[simp] theorem cK_len (c : Kn) : (cK c).length = 6 := by simp [cK]
@[simp] theorem cK_fz (c : Kn) (D : Nat → Option (Bool × List V × List V × List Nat)) : frzL D (cK c) = some (cK c, []) := by
  have := (Rm.full (f := cL) (k := 3) [c.a, c.b]).fz (D := D)
  rwa [List.flatMap_cons, List.flatMap_cons, List.flatMap_nil, List.append_nil] at this
instance : Cel cK 6 := ⟨cK_len, by decide, cK_fz⟩
@[simp] theorem cK_take6 (c : Kn) : (cK c).take 6 = cK c := List.take_of_length_le (by simp)
@[simp] theorem cK_take3 (c : Kn) : (cK c).take 3 = cL c.a := by unfold cK; simp
@[simp] theorem cK_drop3 (c : Kn) : (cK c).drop 3 = cL c.b := by unfold cK; simp
@[simp] theorem cK_mk (a b : L) : cL a ++ cL b = cK ⟨a, b⟩ := rfl
def Kn.Ok (c : Kn) : Prop := c.a.Ok ∧ c.b.Ok
def rightK (p : Int) (c : Kn) : Bool := RightS c.a p 0 && RightS c.b p 0
def RightU (cs : List Kn) (p : Int) : Bool := decide (0 ≤ p) && decide (p ≤ 5) && decide (cs.length ≤ 8) && cs.all (rightK p)
/-- A flat's atoms. -/
def atomsO : List Int → Nat → List A
  | [], _ => []
  | n :: r, i => if 0 ≤ n then ⟨i, n⟩ :: atomsO r (i + 1) else atomsO r (i + 1)
def atomsF (f : F) : List A := ⟨0, f.cst⟩ :: atomsO f.offs 1
/-- What holds in a case. -/
def clZ : List Bool → Nat → List C
  | [], _ => []
  | z :: r, i => if z then clZ r (i + 1) else ⟨[⟨i, 0⟩], ⟨0, 1⟩⟩ :: clZ r (i + 1)
def clKn (z : List Bool) (c : Kn) : List C := (atomsF (flattenF c.a z)).map fun t => ⟨atomsF (flattenF c.b z), t⟩
def clU (cs : List Kn) (z : List Bool) : List C := clZ z 1 ++ cs.flatMap (clKn z)
theorem atomsO_len : ∀ (l : List Int) (i : Nat), (atomsO l i).length ≤ l.length
  | [], _ => by simp [atomsO]
  | n :: r, i => by
    have := atomsO_len r (i + 1)
    unfold atomsO
    split <;> simp <;> omega
theorem atomsF_len (f : F) : (atomsF f).length ≤ f.offs.length + 1 := by
  have := atomsO_len f.offs 1
  simp [atomsF]; omega
theorem atomsO_app : ∀ (a b : List Int) (i : Nat), atomsO (a ++ b) i = atomsO a i ++ atomsO b (i + a.length)
  | [], b, i => by simp [atomsO]
  | n :: a, b, i => by
    rw [List.cons_append, atomsO, atomsO, atomsO_app a b (i + 1), List.length_cons, (by omega : i + 1 + a.length = i + (a.length + 1))]
    split <;> simp
theorem clZ_len : ∀ (l : List Bool) (i : Nat), (clZ l i).length ≤ l.length
  | [], _ => by simp [clZ]
  | n :: r, i => by
    have := clZ_len r (i + 1)
    unfold clZ
    split <;> simp <;> omega
theorem clZ_app : ∀ (a b : List Bool) (i : Nat), clZ (a ++ b) i = clZ a i ++ clZ b (i + a.length)
  | [], b, i => by simp [clZ]
  | n :: a, b, i => by
    rw [List.cons_append, clZ, clZ, clZ_app a b (i + 1), List.length_cons, (by omega : i + 1 + a.length = i + (a.length + 1))]
    split <;> simp
theorem flattenF_len {l : L} {z : List Bool} (h : RightS l z.length 0 = true) : (flattenF l z).offs.length = z.length := by
  obtain ⟨hp, hr⟩ := RightS_ok (q := 0) h
  have hbd := ofS_bd l z 12 hr
  unfold flattenF
  split
  · exact hbd.1
  · exact hbd.1
end Pi


set_option linter.unusedSimpArgs false
set_option linter.unusedVariables false
namespace Pi
theorem slices_IndexFunc_Con.a (l : List Kn) (g : Nat) (caps : List V) (p : Kn → Bool) (hg : (ctx.opn g || ctx.frz g) = false) (hpr : ctx.prim g = none) (hc : ∀ D, frzL D caps = some (caps, [])) (h : ∀ k ∈ l, Ans ctx g ((.ag (cK k)) :: caps) (.b (p k))) (hl : l.length ≤ 9223372036854775807) :
    Ans ctx slices_IndexFunc_Con.n [sV cK l, .fn (.func g) [] caps] (.i .i64 (idxS p l)) := by
  refine ans slices_IndexFunc_Con.f ?_
  simp +contextual (disch := omega) [Nat.add_assoc, Int.add_assoc, if_pos, if_neg, -Int.not_lt, -Int.not_le, -Nat.not_lt, -Nat.not_le, -List.length_flatMap, slices_IndexFunc_Con.c]
  refine for_w (fun i e m x => e 0 = sV cK l ∧ e 1 = .fn (.func g) [] caps ∧ e 7 = .i .i64 l.length ∧ e 8 = .i .i64 i ∧ (l.take i).all (fun a => !p a) = true) l.length ?_ ?_ ?_
  · simp +contextual (disch := omega) [Nat.add_assoc, Int.add_assoc, if_pos, if_neg, -Int.not_lt, -Int.not_le, -Nat.not_lt, -Nat.not_le, -List.length_flatMap]
  · rintro i e m x hi ⟨g1, g2, g3, g4, g5⟩
    have hk := h l[i] (List.getElem_mem hi)
    obtain ⟨q1, q2⟩ := idx_take hi g5
    cases hp : p l[i] with
    | true =>
      rw [hp] at hk
      simp +contextual (disch := omega) [Nat.add_assoc, Int.add_assoc, if_pos, if_neg, -Int.not_lt, -Int.not_le, -Nat.not_lt, -Nat.not_le, -List.length_flatMap, slices_IndexFunc_Con.b1, g1, g2, g3, g4, hi, CallX_cl (C := ctx) (g := g) hpr (orF hg).1 (orF hg).2, hc, ansK hk, q1 hp]
    | false =>
      rw [hp] at hk
      simp +contextual (disch := omega) [Nat.add_assoc, Int.add_assoc, if_pos, if_neg, -Int.not_lt, -Int.not_le, -Nat.not_lt, -Nat.not_le, -List.length_flatMap, slices_IndexFunc_Con.b1, g1, g2, g3, g4, hi, CallX_cl (C := ctx) (g := g) hpr (orF hg).1 (orF hg).2, hc, ansK hk, q2 hp]
  · rintro e m x ⟨g1, g2, g3, g4, g5⟩
    rw [List.take_length] at g5
    simp +contextual (disch := omega) [Nat.add_assoc, Int.add_assoc, if_pos, if_neg, -Int.not_lt, -Int.not_le, -Nat.not_lt, -Nat.not_le, -List.length_flatMap, slices_IndexFunc_Con.b1, g1, g2, g3, g4, idx_all g5]
theorem slices_ContainsFunc_Con.a (l : List Kn) (g : Nat) (caps : List V) (p : Kn → Bool) (hg : (ctx.opn g || ctx.frz g) = false) (hpr : ctx.prim g = none) (hc : ∀ D, frzL D caps = some (caps, [])) (h : ∀ k ∈ l, Ans ctx g ((.ag (cK k)) :: caps) (.b (p k))) (hl : l.length ≤ 9223372036854775807) :
    Ans ctx slices_ContainsFunc_Con.n [sV cK l, .fn (.func g) [] caps] (.b (l.any p)) := by
  refine ans slices_ContainsFunc_Con.f ?_
  simp +contextual (disch := omega) [Nat.add_assoc, Int.add_assoc, if_pos, if_neg, -Int.not_lt, -Int.not_le, -Nat.not_lt, -Nat.not_le, -List.length_flatMap, slices_ContainsFunc_Con.c, hc, ansK (slices_IndexFunc_Con.a l g caps p hg hpr hc h hl), idx_ge]
theorem under_Right_1.a (c : Kn) (hc : c.Ok) (p : Int) : Ans ctx under_Right_1.n [.ag (cK c), .rp [.i .i64 p]] (.b (!rightK p c)) := by
  refine ans under_Right_1.f ?_
  have h1 := level_Right.a c.a hc.1 p 0
  have h2 := level_Right.a c.b hc.2 p 0
  unfold rightK
  cases e1 : RightS c.a p 0 with
  | false =>
    rw [e1] at h1
    simp +contextual (disch := omega) [Nat.add_assoc, Int.add_assoc, if_pos, if_neg, -Int.not_lt, -Int.not_le, -Nat.not_lt, -Nat.not_le, -List.length_flatMap, under_Right_1.c, ansK h1]
  | true =>
    rw [e1] at h1
    simp +contextual (disch := omega) [Nat.add_assoc, Int.add_assoc, if_pos, if_neg, -Int.not_lt, -Int.not_le, -Nat.not_lt, -Nat.not_le, -List.length_flatMap, under_Right_1.c, ansK h1, ansK h2]
theorem under_Right.a (cs : List Kn) (hc : ∀ c ∈ cs, c.Ok) (hl : cs.length ≤ 9223372036854775807) (p : Int) : Ans ctx under_Right.n [sV cK cs, .i .i64 p] (.b (RightU cs p)) := by
  refine ans under_Right.f ?_
  obtain ⟨R, hR⟩ : ∃ R, R = RightU cs p := ⟨_, rfl⟩
  rw [← hR]
  unfold RightU at hR
  by_cases h1 : p < 0
  · have : R = false := by rw [hR]; simp; omega
    simp +contextual (disch := omega) [Nat.add_assoc, Int.add_assoc, if_pos, if_neg, -Int.not_lt, -Int.not_le, -Nat.not_lt, -Nat.not_le, -List.length_flatMap, under_Right.c, h1, this]
  · by_cases h2 : 5 < p
    · have : R = false := by rw [hR]; simp; omega
      simp +contextual (disch := omega) [Nat.add_assoc, Int.add_assoc, if_pos, if_neg, -Int.not_lt, -Int.not_le, -Nat.not_lt, -Nat.not_le, -List.length_flatMap, under_Right.c, h1, h2, this]
    · by_cases h3 : 8 < cs.length
      · have : R = false := by rw [hR]; simp; omega
        simp +contextual (disch := omega) [Nat.add_assoc, Int.add_assoc, if_pos, if_neg, -Int.not_lt, -Int.not_le, -Nat.not_lt, -Nat.not_le, -List.length_flatMap, under_Right.c, h1, h2, h3, this]
      · have hcf := slices_ContainsFunc_Con.a cs under_Right_1.n [.rp [.i .i64 p]] (fun c => !rightK p c) rfl rfl (by simp) (fun c h => under_Right_1.a c (hc c h) p) (by omega)
        have e : R = !(cs.any fun c => !rightK p c) := by
          rw [hR, decide_eq_true (by omega : 0 ≤ p), decide_eq_true (by omega : p ≤ 5), decide_eq_true (by omega : cs.length ≤ 8), List.all_eq_not_any_not]
          simp
        simp +contextual (disch := omega) [Nat.add_assoc, Int.add_assoc, if_pos, if_neg, -Int.not_lt, -Int.not_le, -Nat.not_lt, -Nat.not_le, -List.length_flatMap, under_Right.c, h1, h2, h3, ansK hcf, e]
theorem ref12_Right.a (cs : List Kn) (hc : ∀ c ∈ cs, c.Ok) (hl : cs.length ≤ 9223372036854775807) (p : Int) : Ans ctx ref12_Right.n [sV cK cs, .i .i64 p] (.b (RightU cs p)) := by
  refine ans ref12_Right.f ?_
  obtain ⟨R, hR⟩ : ∃ R, R = RightU cs p := ⟨_, rfl⟩
  rw [← hR]
  unfold RightU at hR
  simp +contextual (disch := omega) [Nat.add_assoc, Int.add_assoc, if_pos, if_neg, -Int.not_lt, -Int.not_le, -Nat.not_lt, -Nat.not_le, -List.length_flatMap, ref12_Right.c]
  refine for_w (fun i e m x => e 0 = sV cK cs ∧ e 1 = .i .i64 p ∧ e 5 = .i .i64 i ∧ (cs.take i).all (rightK p) = true) cs.length ?_ ?_ ?_
  · simp +contextual (disch := omega) [Nat.add_assoc, Int.add_assoc, if_pos, if_neg, -Int.not_lt, -Int.not_le, -Nat.not_lt, -Nat.not_le, -List.length_flatMap]
  · rintro i e m x hi ⟨g0, g1, g5, gt⟩
    have h1 := ref02_Right.a cs[i].a (hc _ (List.getElem_mem hi)).1 p 0
    have h2 := ref02_Right.a cs[i].b (hc _ (List.getElem_mem hi)).2 p 0
    have hbad : rightK p cs[i] = false → R = false := fun h => by
      rw [hR]
      have : cs.all (rightK p) = false := List.all_eq_false.2 ⟨_, List.getElem_mem hi, by rw [h]; simp⟩
      simp [this]
    cases e1 : RightS cs[i].a p 0 with
    | false =>
      rw [e1] at h1
      have := hbad (by simp [rightK, e1])
      simp +contextual (disch := omega) [Nat.add_assoc, Int.add_assoc, if_pos, if_neg, -Int.not_lt, -Int.not_le, -Nat.not_lt, -Nat.not_le, -List.length_flatMap, ref12_Right.b1, g0, g1, g5, hi, ansK h1, this]
    | true =>
      rw [e1] at h1
      cases e2 : RightS cs[i].b p 0 with
      | false =>
        rw [e2] at h2
        have := hbad (by simp [rightK, e2])
        simp +contextual (disch := omega) [Nat.add_assoc, Int.add_assoc, if_pos, if_neg, -Int.not_lt, -Int.not_le, -Nat.not_lt, -Nat.not_le, -List.length_flatMap, ref12_Right.b1, g0, g1, g5, hi, ansK h1, ansK h2, this]
      | true =>
        rw [e2] at h2
        have ht := take_all hi gt (by simp [rightK, e1, e2])
        simp +contextual (disch := omega) [Nat.add_assoc, Int.add_assoc, if_pos, if_neg, -Int.not_lt, -Int.not_le, -Nat.not_lt, -Nat.not_le, -List.length_flatMap, ref12_Right.b1, g0, g1, g5, hi, ansK h1, ansK h2, ht]
  · rintro e m x ⟨g0, g1, g5, gt⟩
    rw [List.take_length] at gt
    rw [gt] at hR
    by_cases h1 : p < 0
    · have : R = false := by rw [hR]; simp; omega
      simp +contextual (disch := omega) [Nat.add_assoc, Int.add_assoc, if_pos, if_neg, -Int.not_lt, -Int.not_le, -Nat.not_lt, -Nat.not_le, -List.length_flatMap, ref12_Right.b1, g0, g1, g5, h1, this]
    · by_cases h2 : 5 < p
      · have : R = false := by rw [hR]; simp; omega
        simp +contextual (disch := omega) [Nat.add_assoc, Int.add_assoc, if_pos, if_neg, -Int.not_lt, -Int.not_le, -Nat.not_lt, -Nat.not_le, -List.length_flatMap, ref12_Right.b1, g0, g1, g5, h1, h2, this]
      · by_cases h3 : 8 < cs.length
        · have : R = false := by rw [hR]; simp; omega
          simp +contextual (disch := omega) [Nat.add_assoc, Int.add_assoc, if_pos, if_neg, -Int.not_lt, -Int.not_le, -Nat.not_lt, -Nat.not_le, -List.length_flatMap, ref12_Right.b1, g0, g1, g5, h1, h2, h3, this]
          omega
        · have : R = true := by rw [hR]; simp; omega
          simp +contextual (disch := omega) [Nat.add_assoc, Int.add_assoc, if_pos, if_neg, -Int.not_lt, -Int.not_le, -Nat.not_lt, -Nat.not_le, -List.length_flatMap, ref12_Right.b1, g0, g1, g5, h1, h2, h3, this]
          omega
def atT (f : F) (i : Nat) : List A := ⟨0, f.cst⟩ :: atomsO (f.offs.take i) 1
theorem atT_s {f : F} {i : Nat} (hi : i < f.offs.length) : atT f (i + 1) = atT f i ++ (if 0 ≤ f.offs[i] then [⟨(i : Int) + 1, f.offs[i]⟩] else []) := by
  unfold atT
  rw [List.take_succ_eq_append_getElem hi, atomsO_app, List.cons_append]
  congr 2
  rw [List.length_take, Nat.min_eq_left (by omega)]
  simp only [atomsO]
  split <;> simp <;> omega
theorem atT_len (f : F) (i : Nat) : (atT f i).length ≤ i + 1 := by
  have := atomsO_len (f.offs.take i) 1
  simp [atT] at this ⊢
  omega
theorem ref12_Atoms.a (f : F) (hl : f.offs.length ≤ 1000) : Ans ctx ref12_Atoms.n [.ag (cF f)] (sV cA (atomsF f)) := by
  refine ans ref12_Atoms.f ?_
  simp +contextual (disch := omega) [Nat.add_assoc, Int.add_assoc, if_pos, if_neg, -Int.not_lt, -Int.not_le, -Nat.not_lt, -Nat.not_le, -List.length_flatMap, ref12_Atoms.c]
  refine for_w (fun i e m x => e 1 = .p 0 0 ∧ e 4 = .i .i64 i ∧ 1 ≤ x ∧ m 0 = some (.cells (cF f) false) ∧ Bf m (e 3) cA 2 (atT f i) 1 x) f.offs.length ?_ ?_ ?_
  · simp +contextual (disch := omega) [Nat.add_assoc, Int.add_assoc, if_pos, if_neg, -Int.not_lt, -Int.not_le, -Nat.not_lt, -Nat.not_le, -List.length_flatMap]
    exact Bf.mem rfl rfl rfl (by omega) (by omega)
  · rintro i e m x hi ⟨g1, g4, gx, y0, gB⟩
    have hs := atT_s hi
    have hln := atT_len f i
    have hst := gB.stor
    have hsc := gB.cells
    generalize hB : e 3 = B at *
    rw [hs]
    by_cases h0 : 0 ≤ f.offs[i]
    · rw [if_pos h0]
      simp +contextual (disch := omega) [Nat.add_assoc, Int.add_assoc, if_pos, if_neg, -Int.not_lt, -Int.not_le, -Nat.not_lt, -Nat.not_le, -List.length_flatMap, ref12_Atoms.b1, g1, g4, y0, hB, hi, h0, hst, hsc, -apV_ns]
      refine gB.ap [⟨(i : Int) + 1, f.offs[i]⟩] (fun j h1 h2 => by simp +contextual (disch := omega) [Nat.add_assoc, Int.add_assoc, if_pos, if_neg, -Int.not_lt, -Int.not_le, -Nat.not_lt, -Nat.not_le, -List.length_flatMap]) (by omega) (by omega) rfl rfl (by simp; omega) ?_
      intro B' ws m2 z0 z1 z2 z3
      have r0 : m2 0 = some (.cells (cF f) false) := by rw [z2 0 (by omega)]; simp +contextual (disch := omega) [Nat.add_assoc, Int.add_assoc, if_pos, if_neg, -Int.not_lt, -Int.not_le, -Nat.not_lt, -Nat.not_le, -List.length_flatMap, y0]
      simp +contextual (disch := omega) [Nat.add_assoc, Int.add_assoc, if_pos, if_neg, -Int.not_lt, -Int.not_le, -Nat.not_lt, -Nat.not_le, -List.length_flatMap, z0, g1, g4, r0, z1.stor, z1.cells]
      exact z1.to rfl (by omega)
    · rw [if_neg h0, List.append_nil]
      simp +contextual (disch := omega) [Nat.add_assoc, Int.add_assoc, if_pos, if_neg, -Int.not_lt, -Int.not_le, -Nat.not_lt, -Nat.not_le, -List.length_flatMap, ref12_Atoms.b1, g1, g4, y0, hB, hi, h0]
      exact gB.up (by omega) (fun _ _ _ => rfl)
  · rintro e m x ⟨g1, g4, gx, y0, gB⟩
    have hz := gB.fz24
    have hst := gB.stor
    have hsc := gB.cells
    have e1 : atT f f.offs.length = atomsF f := by unfold atT; rw [List.take_length]; rfl
    rw [e1] at hz
    generalize hB : e 3 = B at *
    simp +contextual (disch := omega) [Nat.add_assoc, Int.add_assoc, if_pos, if_neg, -Int.not_lt, -Int.not_le, -Nat.not_lt, -Nat.not_le, -List.length_flatMap, ref12_Atoms.b1, g1, g4, y0, hB, hz]
theorem under_situation_atoms.a (cs : List Kn) (z : List Bool) (l : L) (ok : l.Ok) (hr : RightS l z.length 0 = true) : Ans ctx under_situation_atoms.n [.ag [sV cK cs, sV cB z], .ag (cL l)] (sV cA (atomsF (flattenF l z))) := by
  refine ans under_situation_atoms.f ?_
  have hF := flat_Flatten.a l ok z (by have := (RightS_ok (q := 0) hr).1; omega)
  rw [flatten_ok rfl hr] at hF
  have hlo := flattenF_len hr
  have hz5 := (RightS_ok (q := 0) hr).1
  generalize flattenF l z = f at *
  simp +contextual (disch := omega) [Nat.add_assoc, Int.add_assoc, if_pos, if_neg, -Int.not_lt, -Int.not_le, -Nat.not_lt, -Nat.not_le, -List.length_flatMap, under_situation_atoms.c, ansK hF]
  refine for_w (fun i e m x => e 22 = sV cI f.offs ∧ e 23 = .i .i64 f.offs.length ∧ e 24 = .i .i64 i ∧ 10 ≤ x ∧ Bf m (e 7) cA 2 (atT f i) 10 x) f.offs.length ?_ ?_ ?_
  · simp +contextual (disch := omega) [Nat.add_assoc, Int.add_assoc, if_pos, if_neg, -Int.not_lt, -Int.not_le, -Nat.not_lt, -Nat.not_le, -List.length_flatMap]
    exact Bf.mem rfl rfl rfl (by omega) (by omega)
  · rintro i e m x hi ⟨g1, g2, g4, gx, gB⟩
    have hs := atT_s hi
    have hln := atT_len f i
    have hst := gB.stor
    have hsc := gB.cells
    generalize hB : e 7 = B at *
    rw [hs]
    by_cases h0 : 0 ≤ f.offs[i]
    · rw [if_pos h0]
      simp +contextual (disch := omega) [Nat.add_assoc, Int.add_assoc, if_pos, if_neg, -Int.not_lt, -Int.not_le, -Nat.not_lt, -Nat.not_le, -List.length_flatMap, under_situation_atoms.b1, g1, g2, g4, hB, hi, h0, hst, hsc, -apV_ns]
      refine gB.ap [⟨(i : Int) + 1, f.offs[i]⟩] (fun j h1 h2 => by simp +contextual (disch := omega) [Nat.add_assoc, Int.add_assoc, if_pos, if_neg, -Int.not_lt, -Int.not_le, -Nat.not_lt, -Nat.not_le, -List.length_flatMap]) (by omega) (by omega) rfl rfl (by simp; omega) ?_
      intro B' ws m2 z0 z1 z2 z3
      simp +contextual (disch := omega) [Nat.add_assoc, Int.add_assoc, if_pos, if_neg, -Int.not_lt, -Int.not_le, -Nat.not_lt, -Nat.not_le, -List.length_flatMap, z0, g1, g2, g4, z1.stor, z1.cells]
      exact z1.to rfl (by omega)
    · rw [if_neg h0, List.append_nil]
      simp +contextual (disch := omega) [Nat.add_assoc, Int.add_assoc, if_pos, if_neg, -Int.not_lt, -Int.not_le, -Nat.not_lt, -Nat.not_le, -List.length_flatMap, under_situation_atoms.b1, g1, g2, g4, hB, hi, h0]
      exact gB.up (by omega) (fun _ _ _ => rfl)
  · rintro e m x ⟨g1, g2, g4, gx, gB⟩
    have hz := gB.fz24
    have e1 : atT f f.offs.length = atomsF f := by unfold atT; rw [List.take_length]; rfl
    rw [e1] at hz
    generalize hB : e 7 = B at *
    simp +contextual (disch := omega) [Nat.add_assoc, Int.add_assoc, if_pos, if_neg, -Int.not_lt, -Int.not_le, -Nat.not_lt, -Nat.not_le, -List.length_flatMap, under_situation_atoms.b1, g1, g2, g4, hB, hz]
theorem under_situation_clauses.a (cs : List Kn) (z : List Bool) : Ans ctx under_situation_clauses.n [.ag [sV cK cs, sV cB z]] (.fn (.func under_situation_clauses_1.n) [] [.rp [sV cK cs, sV cB z]]) := by
  refine ans under_situation_clauses.f ?_
  simp +contextual (disch := omega) [Nat.add_assoc, Int.add_assoc, if_pos, if_neg, -Int.not_lt, -Int.not_le, -Nat.not_lt, -Nat.not_le, -List.length_flatMap, under_situation_clauses.c]
end Pi

