/- Contracts: the least model (layer 9): rounds, on the program's side. -/
import Derived.Test.YtfdkpnckflmcaaaC08d
import Derived.Test.YtfdkpnckflmcaaaEnc
set_option linter.unusedSimpArgs false
set_option linter.unusedVariables false
namespace Pi
def runV (r : List Int × Bool × Int) : V := .tu [sV cI r.1, .b r.2.1, .i .i64 r.2.2]
theorem great_pad {most : Int} {m : List Int} (h0 : 0 ≤ most) : greatC most (pad16 m) = greatC most m := by
  rw [Bool.eq_iff_iff]
  have h1 := great_false (m := pad16 m) h0
  have h2 := great_false (m := m) h0
  simp only [pad_at] at h1
  rw [← Bool.not_eq_false, ← Bool.not_eq_false, h1, h2]
theorem max_great {m : List Int} {most : Int} (h0 : 0 ≤ most) : decide (maxL m > most) = greatC most m := by
  obtain ⟨h1, h2, h3⟩ := fold_mx m 0
  unfold greatC
  rw [Bool.eq_iff_iff, List.any_eq_true]
  simp only [decide_eq_true_eq]
  constructor
  · intro h
    rcases h3 with h3 | h3
    · unfold maxL at h; omega
    · exact ⟨_, h3, h⟩
  · rintro ⟨v, hv, h⟩
    have := h2 v hv
    unfold maxL
    omega
theorem eqI_list : ∀ (a b : List Int), a.length = b.length → eqL (List.replicate a.length .i) (a.flatMap cI) (b.flatMap cI) = some (decide (a = b))
  | [], [], _ => rfl
  | x :: r, y :: s, h => by
    have ih := eqI_list r s (by simpa using h)
    simp only [List.length_cons, List.replicate_succ, List.flatMap_cons, cI_at, List.cons_append, List.nil_append, eqL, eqK, if_true, Option.bind_some]
    rw [ih]
    simp only [Option.map_some, Option.some.injEq]
    rw [Bool.eq_iff_iff]
    simp
theorem small_round {X : Int} {m : List Int} {l : List C} {n : Int} (h : SmallM X m) (hl : l.length ≤ 60) (hc : ∀ c ∈ l, okC n c = true) : SmallM (X + 60000) (roundC l m) := (fold_small h hc).mono (by omega)
theorem solve_run.a {l : List C} {frm : List Int} {most : Int} (hl : l.length ≤ 60) (hn : 1 ≤ frm.length ∧ frm.length ≤ 16) (hc : ∀ c ∈ l, okC frm.length c = true) (hm : 0 ≤ most ∧ most ≤ 100000) (hf : SmallM most frm) :
    Ans ctx solve_run.n [sV cC l, sV cI frm, .i .i64 most] (runV (lmC l frm most)) := by
  refine ans solve_run.f ?_
  have hc16 : ∀ c ∈ l, okC 16 c = true := fun c h => okC_mono (by omega) (hc c h)
  have hp := pad_len hn.2
  simp +contextual (disch := omega) [Nat.add_assoc, Int.add_assoc, if_pos, if_neg, -Int.not_lt, -Int.not_le, -Nat.not_lt, -Nat.not_le, -List.length_flatMap, solve_run.c, ansK (solve_of.a hn.2)]
  have h2 : ((pad16 frm).flatMap cI).length = 16 := by rw [flatI_len, hp]
  have h3 := flatI_all hp.symm
  refine openg_w solve_model_rounds.f rfl (.inl rfl) ?_
  simp +contextual (disch := omega) [Nat.add_assoc, Int.add_assoc, if_pos, if_neg, -Int.not_lt, -Int.not_le, -Nat.not_lt, -Nat.not_le, -List.length_flatMap, solve_model_rounds.c, h2, h3]
  refine gen_e (fun E => E 3 = .p 0 0 ∧ E 4 = .p 1 0 ∧ E 5 = .p 2 0 ∧ E 6 = .p 3 0 ∧ E 7 = .p 4 0 ∧ E 8 = .p 5 0 ∧ E 9 = .p 7 0 ∧ E 15 = .fn (.func solve_model_rounds_1.n) [] [.p 11 0, .p 12 0]) (by simp +contextual (disch := omega) [Nat.add_assoc, Int.add_assoc, if_pos, if_neg, -Int.not_lt, -Int.not_le, -Nat.not_lt, -Nat.not_le, -List.length_flatMap]) ?_
  rintro E ⟨E3, E4, E5, E6, E7, E8, E9, E15⟩
  refine rf_g fun A B hA hB => ?_
  simp +contextual (disch := omega) [Nat.add_assoc, Int.add_assoc, if_pos, if_neg, -Int.not_lt, -Int.not_le, -Nat.not_lt, -Nat.not_le, -List.length_flatMap, E15]
  refine openg_w solve_model_rounds_1.f rfl (.inr (by simp +contextual (disch := omega) [Nat.add_assoc, Int.add_assoc, if_pos, if_neg, -Int.not_lt, -Int.not_le, -Nat.not_lt, -Nat.not_le, -List.length_flatMap])) ?_
  simp +contextual (disch := omega) [Nat.add_assoc, Int.add_assoc, if_pos, if_neg, -Int.not_lt, -Int.not_le, -Nat.not_lt, -Nat.not_le, -List.length_flatMap, solve_model_rounds_1.c]
  have hroom : roomC most frm ≤ 1700000 := by
    have := room_bd hm.1 (m := frm) (fun i => (hf i).1)
    have h5 : frm.length * (most.toNat + 1) ≤ 16 * 100001 := Nat.mul_le_mul hn.2 (by omega)
    omega
  refine while_w (fun f e m x => ∃ (q : List Int) (k : Int), e 0 = .fn (.yield 17) [] [] ∧ e 1 = .p 11 0 ∧ e 2 = .p 12 0 ∧ 18 ≤ x ∧ m 16 = some .dfr ∧ m 17 = some (.loop ⟨E, [16], A, B, .ready, none⟩) ∧
    m 0 = some (.cells [sV cC l] false) ∧ m 1 = some (.cells [sV cI frm] false) ∧ m 2 = some (.cells [.i .i64 most] false) ∧ m 3 = some (.cells [.ns] false) ∧ m 4 = some (.cells [.b false] false) ∧ m 5 = some (.cells [.i .i64 k] false) ∧
    m 7 = some (.cells ((pad16 q).flatMap cI) false) ∧ m 11 = some (.cells ((pad16 q).flatMap cI) false) ∧ m 12 = some (.cells [sV cC l] false) ∧
    q.length = frm.length ∧ SmallM most q ∧ runC (f + 1) l most q k = lmC l frm most ∧ roomC most q ≤ f ∧ 0 ≤ k ∧ k + 60 * f ≤ 120000000) (roomC most frm) ?_ ?_
  · refine ⟨frm, 0, ?_⟩
    simp +contextual (disch := omega) [Nat.add_assoc, Int.add_assoc, if_pos, if_neg, -Int.not_lt, -Int.not_le, -Nat.not_lt, -Nat.not_le, -List.length_flatMap]
    exact ⟨hf, rfl, by omega⟩
  · rintro f e m x ⟨q, k, g0, g1, g2, gx, m16, m17, m0, m1, m2, m3, m4, m5, m7, m11, m12, hql, hqs, hrun, hrm, hk0, hkf⟩
    have hpq := pad_len (m := q) (by omega)
    have hrd : roundC l (pad16 q) = pad16 (roundC l q) := pad_fold (n := frm.length) (by omega) hc
    have hR := solve_model_round.a hpq ((pad_small hqs).mono (by omega)) hl hc16
    rw [hrd] at hR
    have hrl := round_len l q
    have hrs := small_round hqs hl hc
    have hpr := pad_len (m := roundC l q) (by omega)
    have hrle := round_le l q
    unfold runC at hrun
    generalize hr : roundC l q = r at *
    have hfl : ((pad16 q).flatMap cI).length = 16 := by rw [flatI_len, hpq]
    have hfr : ((pad16 r).flatMap cI).length = 16 := by rw [flatI_len, hpr]
    have htq := flatI_all hpq.symm
    have htr := flatI_all hpr.symm
    have hmx := slices_Max_int.a9 (m := pad16 r) ((pad_small hrs).nats (by omega)) (by omega) (by intro h; rw [h] at hpr; simp at hpr)
    have hsl : sV cI (pad16 r) = .sl ((pad16 r).flatMap cI) 16 := by unfold sV; rw [hpr]
    rw [hsl] at hmx
    have hgr := max_great (m := pad16 r) hm.1
    rw [great_pad hm.1] at hgr
    have heq := eqI_list (pad16 r) (pad16 q) (by omega)
    have hdec : decide (pad16 r = pad16 q) = decide (r = q) := by rw [Bool.eq_iff_iff]; simp only [decide_eq_true_eq]; exact pad_inj (by omega)
    rw [hpr, hdec] at heq
    have heq' : eqQ (.many (List.replicate 16 .i)) (.ag ((pad16 r).flatMap cI)) (.ag ((pad16 q).flatMap cI)) = some (decide (r = q)) := heq
    simp only [List.replicate] at heq'
    simp +contextual (disch := omega) [Nat.add_assoc, Int.add_assoc, if_pos, if_neg, -Int.not_lt, -Int.not_le, -Nat.not_lt, -Nat.not_le, -List.length_flatMap, solve_model_rounds_1.b1, g0, g1, g2, m11, m12, hfl, hfr, htq, htr, ansK hR]
    refine yield_w (q := ⟨E, [16], A, B, .ready, none⟩) (by simp +contextual (disch := omega) [Nat.add_assoc, Int.add_assoc, if_pos, if_neg, -Int.not_lt, -Int.not_le, -Nat.not_lt, -Nat.not_le, -List.length_flatMap, m17]) rfl rfl ?_
    refine w_as hA ?_
    simp +contextual (disch := omega) [Nat.add_assoc, Int.add_assoc, if_pos, if_neg, -Int.not_lt, -Int.not_le, -Nat.not_lt, -Nat.not_le, -List.length_flatMap, solve_run.a1, m17, hfr]
    refine w_as hB ?_
    have htk : ((pad16 r).flatMap cI).take frm.length = r.flatMap cI := by
      have := pad_take r
      rw [hrl, hql] at this
      have e := flat_take (f := cI) (k := 1) (pad16 r) frm.length
      rw [Nat.mul_one] at e
      rw [e, this]
    have hne : frm ≠ [] := by intro h; rw [h] at hn; simp at hn
    cases hg : greatC most r with
    | true =>
      rw [hg] at hgr hrun
      simp only [if_true] at hrun
      have hgt : most < maxL (pad16 r) := by simpa using hgr
      simp +contextual (disch := omega) [Nat.add_assoc, Int.add_assoc, if_pos, if_neg, -Int.not_lt, -Int.not_le, -Nat.not_lt, -Nat.not_le, -List.length_flatMap, solve_run.b2, m0, m1, m2, m3, m4, m5, m7, m16, m17, E3, E4, E5, E6, E7, E8, E9, hfl, hfr, htq, htr, ansK hmx]
      rw [← hrun]
      rfl
    | false =>
      rw [hg] at hgr hrun
      have hgt : ¬ (most < maxL (pad16 r)) := by simpa using hgr
      have hdq : ((pad16 q).flatMap cI).drop 16 = [] := List.drop_of_length_le (by omega)
      by_cases hq : r = q
      · simp only [hq, Bool.false_eq_true, if_false, if_true] at hrun
        rw [decide_eq_true hq] at heq'
        simp +contextual (disch := omega) [Nat.add_assoc, Int.add_assoc, if_pos, if_neg, -Int.not_lt, -Int.not_le, -Nat.not_lt, -Nat.not_le, -List.length_flatMap, solve_run.b2, m0, m1, m2, m3, m4, m5, m7, m16, m17, E3, E4, E5, E6, E7, E8, E9, hfl, hfr, htq, htr, hdq, ansK hmx, heq', htk, hne]
        rw [← hrun, hq, flatI_all hql.symm]
        simp only [runV, sV, hql]
      · simp only [hq, Bool.false_eq_true, if_false] at hrun
        rw [decide_eq_false hq] at heq'
        simp +contextual (disch := omega) [Nat.add_assoc, Int.add_assoc, if_pos, if_neg, -Int.not_lt, -Int.not_le, -Nat.not_lt, -Nat.not_le, -List.length_flatMap, solve_run.b2, m0, m1, m2, m3, m4, m5, m7, m16, m17, E3, E4, E5, E6, E7, E8, E9, hfl, hfr, htq, htr, hdq, ansK hmx, heq', htk, hne]
        have hlt := room_lt (most := most) hrl.symm hrle (fun e => hq e.symm) hg
        obtain ⟨g, rfl⟩ : ∃ g, f = g + 1 := ⟨f - 1, by omega⟩
        have hrs2 : SmallM most r := fun i => ⟨(hrs i).1, (great_false hm.1).1 hg i⟩
        exact ⟨g, by omega, g0, g1, g2, r, rfl, m12, by omega, hrs2, hrun, by omega, by omega, by omega⟩
end Pi


set_option linter.unusedSimpArgs false
set_option linter.unusedVariables false
namespace Pi
theorem ref09_Limit.a {vars : Int} {l : List C} (hr : rightC vars l = true) : Ans ctx ref09_Limit.n [.i .i64 vars, sV cC l] (.i .i64 ((vars - 1) * mostS l)) := by
  refine ans ref09_Limit.f ?_
  obtain ⟨r1, r2, r3, r4⟩ := right_ok hr
  have hm := ref08_Most.a vars l (by omega) (fun c hc => Nat.le_trans (okC_six (r4 c hc)) (by omega))
  rw [mostV, if_pos hr] at hm
  have hb := mostS_bd r4
  have h1 : 0 ≤ (vars - 1) * mostS l := Int.mul_nonneg (by omega) hb.1
  have h2 : (vars - 1) * mostS l ≤ 15 * 1000 := Int.mul_le_mul (by omega) hb.2 hb.1 (by omega)
  simp +contextual (disch := omega) [Nat.add_assoc, Int.add_assoc, if_pos, if_neg, -Int.not_lt, -Int.not_le, -Nat.not_lt, -Nat.not_le, -List.length_flatMap, ref09_Limit.c, ansK hm]
theorem ref09_great.a {m : List Int} {most : Int} (hl : m.length ≤ 1000) : Ans ctx ref09_great.n [sV cI m, .i .i64 most] (.b (greatC most m)) := by
  refine ans ref09_great.f ?_
  simp +contextual (disch := omega) [Nat.add_assoc, Int.add_assoc, if_pos, if_neg, -Int.not_lt, -Int.not_le, -Nat.not_lt, -Nat.not_le, -List.length_flatMap, ref09_great.c]
  refine for_w (fun i e m' x => e 0 = sV cI m ∧ e 1 = .i .i64 most ∧ e 5 = .i .i64 i ∧ greatC most (m.take i) = false) m.length ?_ ?_ ?_
  · simp +contextual (disch := omega) [Nat.add_assoc, Int.add_assoc, if_pos, if_neg, -Int.not_lt, -Int.not_le, -Nat.not_lt, -Nat.not_le, -List.length_flatMap]
    rfl
  · rintro i e m' x hi ⟨g1, g2, g3, g4⟩
    have h1 : greatC most (m.take (i + 1)) = (greatC most (m.take i) || decide (most < m[i])) := take_any hi
    rw [g4] at h1
    by_cases h : most < m[i]
    · have : greatC most m = true := any_at hi (by simpa using h)
      simp +contextual (disch := omega) [Nat.add_assoc, Int.add_assoc, if_pos, if_neg, -Int.not_lt, -Int.not_le, -Nat.not_lt, -Nat.not_le, -List.length_flatMap, ref09_great.b1, g1, g2, g3, hi, this]
    · have h2 : greatC most (m.take (i + 1)) = false := by rw [h1]; simp; omega
      simp +contextual (disch := omega) [Nat.add_assoc, Int.add_assoc, if_pos, if_neg, -Int.not_lt, -Int.not_le, -Nat.not_lt, -Nat.not_le, -List.length_flatMap, ref09_great.b1, g1, g2, g3, hi, h2]
  · rintro e m' x ⟨g1, g2, g3, g4⟩
    rw [List.take_length] at g4
    simp +contextual (disch := omega) [Nat.add_assoc, Int.add_assoc, if_pos, if_neg, -Int.not_lt, -Int.not_le, -Nat.not_lt, -Nat.not_le, -List.length_flatMap, ref09_great.b1, g1, g2, g3, g4]
theorem fold_le (l : List C) (m : List Int) : LeM m (l.foldl stepC m) := round_le l m
theorem step_ne {m a : List Int} {c : C} (h : LeM m a) (hl : m.length = a.length) : stepC a c = m → a = m := by
  intro e
  have h1 := step_le a c
  rw [e] at h1
  exact LeM.anti hl.symm h1 h
theorem ref09_rounds.a {l : List C} {frm : List Int} {most : Int} (hl : l.length ≤ 60) (hn : 1 ≤ frm.length ∧ frm.length ≤ 16) (hc : ∀ c ∈ l, okC frm.length c = true) (hm : 0 ≤ most ∧ most ≤ 100000) (hf : SmallM most frm) :
    Ans ctx ref09_rounds.n [sV cC l, sV cI frm, .i .i64 most] (runV (lmC l frm most)) := by
  refine ans ref09_rounds.f ?_
  have hroom : roomC most frm ≤ 1700000 := by
    have := room_bd hm.1 (m := frm) (fun i => (hf i).1)
    have h5 : frm.length * (most.toNat + 1) ≤ 16 * 100001 := Nat.mul_le_mul hn.2 (by omega)
    omega
  have hne : frm ≠ [] := by intro h; rw [h] at hn; simp at hn
  simp +contextual (disch := omega) [Nat.add_assoc, Int.add_assoc, if_pos, if_neg, -Int.not_lt, -Int.not_le, -Nat.not_lt, -Nat.not_le, -List.length_flatMap, ref09_rounds.c, hne]
  refine while_w (fun f e m x => ∃ (q : List Int) (k : Int), e 0 = sV cC l ∧ e 2 = .i .i64 most ∧ e 9 = .ms 4 0 frm.length 1 ∧ e 10 = .i .i64 k ∧ 5 ≤ x ∧ m 4 = some (.cells (q.flatMap cI) false) ∧
    q.length = frm.length ∧ SmallM most q ∧ runC (f + 1) l most q k = lmC l frm most ∧ roomC most q ≤ f ∧ 0 ≤ k ∧ k + 60 * f ≤ 120000000) (roomC most frm) ?_ ?_
  · refine ⟨frm, 0, ?_⟩
    simp +contextual (disch := omega) [Nat.add_assoc, Int.add_assoc, if_pos, if_neg, -Int.not_lt, -Int.not_le, -Nat.not_lt, -Nat.not_le, -List.length_flatMap]
    exact ⟨hf, rfl, by omega⟩
  · rintro f e m x ⟨q, k, g0, g2, g9, g10, gx, m2, hql, hqs, hrun, hrm, hk0, hkf⟩
    simp +contextual (disch := omega) [Nat.add_assoc, Int.add_assoc, if_pos, if_neg, -Int.not_lt, -Int.not_le, -Nat.not_lt, -Nat.not_le, -List.length_flatMap, ref09_rounds.b2, g0, g2, g9, g10, m2]
    refine for_w (fun i e m x => ∃ p, p = (l.take i).foldl stepC q ∧ e 0 = sV cC l ∧ e 2 = .i .i64 most ∧ e 9 = .ms 4 0 frm.length 1 ∧ e 10 = .i .i64 (k + i) ∧ e 12 = .i .i64 i ∧ e 11 = .b (!decide (p = q)) ∧ 5 ≤ x ∧ m 4 = some (.cells (p.flatMap cI) false)) l.length ?_ ?_ ?_
    · refine ⟨q, rfl, ?_⟩
      simp +contextual (disch := omega) [Nat.add_assoc, Int.add_assoc, if_pos, if_neg, -Int.not_lt, -Int.not_le, -Nat.not_lt, -Nat.not_le, -List.length_flatMap, g0, g2, g9, g10, m2]
      omega
    · rintro i e m x hi ⟨p, hp, q0, q2, q9, q10, q12, q11, qx, qm⟩
      have hok := hc l[i] (List.getElem_mem hi)
      have hto := okC_to hok
      have hsm := fold_small (n := frm.length) hqs (fun c h => hc c (List.mem_of_mem_take h)) (l := l.take i)
      have hlt : (l.take i).length ≤ 60 := by rw [List.length_take]; omega
      have hpl : p.length = frm.length := by rw [hp, fold_len, hql]
      rw [← hp] at hsm
      have hps : SmallM 1100000 p := hsm.mono (by omega)
      have hle : LeM q p := hp ▸ fold_le _ _
      have hfo : (l.take (i + 1)).foldl stepC q = stepC p l[i] := by rw [take_fold hi, hp]
      rw [hfo]
      have hA := ref08_Asks.a (hps.nats (by omega)) (c := l[i]) (by rw [hpl]; exact hok) (by omega)
      have hA' : Ans ctx ref08_Asks.n [.ag (cC l[i]), .sl (p.flatMap cI) frm.length] (.i .i64 (asksS p l[i])) := by
        have e : sV cI p = .sl (p.flatMap cI) frm.length := by unfold sV; rw [hpl]
        rw [← e]; exact hA
      have hv := getD_get p 0 (by omega : l[i].to.var.toNat < p.length)
      have hcl : (p.flatMap cI).length = frm.length := by rw [flatI_len, hpl]
      have htk := flatI_all hpl.symm
      have hvb := hps l[i].to.var.toNat
      rw [hv] at hvb
      by_cases hlt : p[l[i].to.var.toNat] < asksS p l[i]
      · have hst : stepC p l[i] = p.set l[i].to.var.toNat (asksS p l[i]) := by unfold stepC; rw [hv, if_pos hlt]
        have hnq : stepC p l[i] ≠ q := by
          intro h
          have h1 := step_ne hle (by omega) h
          have h2 : (p.set l[i].to.var.toNat (asksS p l[i])).getD l[i].to.var.toNat 0 = p.getD l[i].to.var.toNat 0 := by rw [← hst, h, h1]
          rw [getD_set, if_pos ⟨rfl, by omega⟩, hv] at h2
          omega
        simp +contextual (disch := omega) [Nat.add_assoc, Int.add_assoc, if_pos, if_neg, -Int.not_lt, -Int.not_le, -Nat.not_lt, -Nat.not_le, -List.length_flatMap, ref09_rounds.b1, q0, q2, q9, q10, q12, q11, qm, hi, ansK hA', hcl, htk, flatI_get, hnq]
        rw [hst]; exact flatI_set (by omega)
      · have hst : stepC p l[i] = p := by unfold stepC; rw [hv, if_neg hlt]
        rw [hst]
        simp +contextual (disch := omega) [Nat.add_assoc, Int.add_assoc, if_pos, if_neg, -Int.not_lt, -Int.not_le, -Nat.not_lt, -Nat.not_le, -List.length_flatMap, ref09_rounds.b1, q0, q2, q9, q10, q12, q11, qm, hi, ansK hA', hcl, htk, flatI_get]
    · rintro e m x ⟨p, hp, q0, q2, q9, q10, q12, q11, qx, qm⟩
      rw [List.take_length] at hp
      have hpl : p.length = frm.length := by rw [hp, fold_len, hql]
      have hcl : (p.flatMap cI).length = frm.length := by rw [flatI_len, hpl]
      have htk := flatI_all hpl.symm
      have hgr := ref09_great.a (m := p) (most := most) (by omega)
      have hsl : sV cI p = .sl (p.flatMap cI) frm.length := by unfold sV; rw [hpl]
      rw [hsl] at hgr
      have hle : LeM q p := hp ▸ fold_le _ _
      have hrs := small_round hqs hl hc
      unfold runC at hrun
      have hpr : roundC l q = p := hp.symm
      rw [hpr] at hrun hrs
      cases hg : greatC most p with
      | true =>
        rw [hg] at hgr hrun
        simp only [if_true] at hrun
        simp +contextual (disch := omega) [Nat.add_assoc, Int.add_assoc, if_pos, if_neg, -Int.not_lt, -Int.not_le, -Nat.not_lt, -Nat.not_le, -List.length_flatMap, ref09_rounds.b1, q0, q2, q9, q10, q12, q11, qm, hcl, htk, ansK hgr]
        rw [← hrun]
        rfl
      | false =>
        rw [hg] at hgr hrun
        by_cases hq : p = q
        · simp only [hq, Bool.false_eq_true, if_false, if_true] at hrun
          rw [hq] at hgr hcl htk
          simp +contextual (disch := omega) [Nat.add_assoc, Int.add_assoc, if_pos, if_neg, -Int.not_lt, -Int.not_le, -Nat.not_lt, -Nat.not_le, -List.length_flatMap, ref09_rounds.b1, q0, q2, q9, q10, q12, q11, qm, hcl, htk, ansK hgr, hq]
          rw [← hrun]
          simp only [runV, sV, hql]
        · simp only [hq, Bool.false_eq_true, if_false] at hrun
          have hlt := room_lt (most := most) (by omega) hle (fun e => hq e.symm) hg
          obtain ⟨g, rfl⟩ : ∃ g, f = g + 1 := ⟨f - 1, by omega⟩
          have hrs2 : SmallM most p := fun i => ⟨(hrs i).1, (great_false hm.1).1 hg i⟩
          simp +contextual (disch := omega) [Nat.add_assoc, Int.add_assoc, if_pos, if_neg, -Int.not_lt, -Int.not_le, -Nat.not_lt, -Nat.not_le, -List.length_flatMap, ref09_rounds.b1, q0, q2, q9, q10, q12, q11, qm, hcl, htk, ansK hgr, hq]
          exact ⟨g, by omega, p, rfl, by omega, hrs2, hrun, by omega, by omega, by omega⟩
/-- What Solve tells. -/
def solveV (vars : Int) (l : List C) : V := if rightC vars l = true then .tu [sV cI (solveC vars.toNat l).1, .b (solveC vars.toNat l).2.1, .i .i64 (solveC vars.toNat l).2.2, .i .i64 0] else .tu [sV cI [], .b false, .i .i64 0, .i .i64 1]
theorem zeros_noughts (n : Nat) : zeros [V.i .i64 0] n = (noughts n).flatMap cI := by
  induction n with
  | zero => rfl
  | succ n ih => rw [zeros, ih]; unfold noughts; rw [List.replicate_succ]; rfl
theorem noughts_small {n : Nat} {X : Int} (h : 0 ≤ X) : SmallM X (noughts n) := fun i => by rw [noughts_at]; exact ⟨Int.le_refl _, h⟩
theorem solve_Solve.a (vars : Int) (l : List C) (hl : l.length ≤ 9223372036854775807) (hf : ∀ c ∈ l, c.frm.length ≤ 9223372036854775807) : Ans ctx solve_Solve.n [.i .i64 vars, sV cC l] (solveV vars l) := by
  refine ans solve_Solve.f ?_
  have hr := horn_Right.a vars l hl hf
  unfold solveV
  cases h1 : rightC vars l with
  | false => simp +contextual (disch := omega) [Nat.add_assoc, Int.add_assoc, if_pos, if_neg, -Int.not_lt, -Int.not_le, -Nat.not_lt, -Nat.not_le, -List.length_flatMap, solve_Solve.c, ansK hr, h1]
  | true =>
    obtain ⟨r1, r2, r3, r4⟩ := right_ok h1
    obtain ⟨n, rfl⟩ : ∃ n : Nat, vars = n := ⟨vars.toNat, by omega⟩
    have hb := mostS_bd r4
    have b1 : 0 ≤ ((n : Int) - 1) * mostS l := Int.mul_nonneg (by omega) hb.1
    have b2 : ((n : Int) - 1) * mostS l ≤ 15 * 1000 := Int.mul_le_mul (by omega) hb.2 hb.1 (by omega)
    have hR := solve_run.a (l := l) (frm := noughts n) (most := ((n : Int) - 1) * mostS l) r3 (by rw [noughts_len]; omega) (by rw [noughts_len]; exact r4) (by omega) (noughts_small b1)
    have e1 : lmC l (noughts n) (((n : Int) - 1) * mostS l) = solveC n l := by unfold solveC limC; rw [Int.zero_add]
    have e2 : sV cI (noughts n) = .sl ((noughts n).flatMap cI) n := by unfold sV; rw [noughts_len]
    rw [e1, e2, runV] at hR
    have hcl : ((noughts n).flatMap cI).length = n := by rw [flatI_len, noughts_len]
    have htk := flatI_all (noughts_len n).symm
    simp +contextual (disch := omega) [Nat.add_assoc, Int.add_assoc, if_pos, if_neg, -Int.not_lt, -Int.not_le, -Nat.not_lt, -Nat.not_le, -List.length_flatMap, solve_Solve.c, ansK hr, h1, ansK (solve_limit.a h1), zeros_noughts, hcl, htk, ansK hR]
theorem ref09_Solve.a (vars : Int) (l : List C) (hl : l.length ≤ 9223372036854775807) (hf : ∀ c ∈ l, c.frm.length ≤ 9223372036854775807) : Ans ctx ref09_Solve.n [.i .i64 vars, sV cC l] (solveV vars l) := by
  refine ans ref09_Solve.f ?_
  have hr := ref08_Right.a vars l hl hf
  unfold solveV
  cases h1 : rightC vars l with
  | false => simp +contextual (disch := omega) [Nat.add_assoc, Int.add_assoc, if_pos, if_neg, -Int.not_lt, -Int.not_le, -Nat.not_lt, -Nat.not_le, -List.length_flatMap, ref09_Solve.c, ansK hr, h1]
  | true =>
    obtain ⟨r1, r2, r3, r4⟩ := right_ok h1
    obtain ⟨n, rfl⟩ : ∃ n : Nat, vars = n := ⟨vars.toNat, by omega⟩
    have hb := mostS_bd r4
    have b1 : 0 ≤ ((n : Int) - 1) * mostS l := Int.mul_nonneg (by omega) hb.1
    have b2 : ((n : Int) - 1) * mostS l ≤ 15 * 1000 := Int.mul_le_mul (by omega) hb.2 hb.1 (by omega)
    have hR := ref09_rounds.a (l := l) (frm := noughts n) (most := ((n : Int) - 1) * mostS l) r3 (by rw [noughts_len]; omega) (by rw [noughts_len]; exact r4) (by omega) (noughts_small b1)
    have e1 : lmC l (noughts n) (((n : Int) - 1) * mostS l) = solveC n l := by unfold solveC limC; rw [Int.zero_add]
    have e2 : sV cI (noughts n) = .sl ((noughts n).flatMap cI) n := by unfold sV; rw [noughts_len]
    rw [e1, e2, runV] at hR
    have hcl : ((noughts n).flatMap cI).length = n := by rw [flatI_len, noughts_len]
    have htk := flatI_all (noughts_len n).symm
    simp +contextual (disch := omega) [Nat.add_assoc, Int.add_assoc, if_pos, if_neg, -Int.not_lt, -Int.not_le, -Nat.not_lt, -Nat.not_le, -List.length_flatMap, ref09_Solve.c, ansK hr, h1, ansK (ref09_Limit.a h1), zeros_noughts, hcl, htk, ansK hR]
end Pi


set_option linter.unusedSimpArgs false
set_option linter.unusedVariables false
namespace Pi
theorem wrap_nat {a : Nat} (h : a < 2 ^ 64) : Go.IntKind.u64.wrap (a : Int) = a := by
  have : ((a : Int) % (2 ^ 64 : Int)) = a := Int.emod_eq_of_lt (by omega) (by exact_mod_cast h)
  simp only [Go.IntKind.wrap, Go.IntKind.signed, Go.IntKind.bits]
  simp at this ⊢
  omega
theorem pow_lt {i : Nat} (hi : i < 64) : 2 ^ i < 2 ^ 64 := Nat.pow_lt_pow_right (by omega) hi
theorem bin_shr {S i : Nat} (hi : i < 64) : bin .shr (.i .u64 S) (.i .u64 i) = some (.i .u64 ((S / 2 ^ i : Nat) : Int)) := by
  have e : min (i : Int).toNat (Go.IntKind.bits .u64) = i := by simp [Go.IntKind.bits]; omega
  simp only [bin]
  rw [if_neg (by omega), e, Int.fdiv_eq_ediv_of_nonneg _ (by exact Int.le_of_lt (Int.pow_pos (by omega)))]
  simp
theorem bin_shl1 {i : Nat} (hi : i < 64) : bin .shl (.i .u64 1) (.i .u64 i) = some (.i .u64 ((2 ^ i : Nat) : Int)) := by
  have e : min (i : Int).toNat (Go.IntKind.bits .u64) = i := by simp [Go.IntKind.bits]; omega
  simp only [bin]
  rw [if_neg (by omega), e]
  have := wrap_nat (pow_lt hi)
  simp only [Int.one_mul]
  rw [← this]
  simp
theorem bin_and1 {S : Nat} : bin .and (.i .u64 S) (.i .u64 1) = some (.i .u64 ((S % 2 : Nat) : Int)) := by
  have : (BitVec.ofInt (Go.IntKind.bits .u64) (S : Int) &&& BitVec.ofInt (Go.IntKind.bits .u64) 1).toNat = S % 2 := by
    show (BitVec.ofInt 64 (S : Int) &&& BitVec.ofInt 64 1).toNat = S % 2
    rw [BitVec.ofInt_natCast, BitVec.toNat_and, BitVec.toNat_ofNat]
    have : (BitVec.ofInt 64 1).toNat = 1 := by decide
    rw [this, Nat.and_one_is_mod]
    omega
  simp only [bin, binI, if_true]
  rw [this, wrap_nat (by omega)]
theorem bin_off {S i : Nat} : bin .andNot (.i .u64 S) (.i .u64 ((2 ^ i : Nat) : Int)) = some (.i .u64 (offB S i : Nat)) := by
  have : (BitVec.ofInt (Go.IntKind.bits .u64) (S : Int) &&& ~~~(BitVec.ofInt (Go.IntKind.bits .u64) ((2 ^ i : Nat) : Int))).toNat = offB S i := by
    show (BitVec.ofInt 64 (S : Int) &&& ~~~(BitVec.ofInt 64 ((2 ^ i : Nat) : Int))).toNat = offB S i
    rw [BitVec.ofInt_natCast, BitVec.ofInt_natCast]
    rfl
  simp only [bin, binI, if_true]
  rw [this, wrap_nat (offB_lt S i)]
theorem core_set_has.a (S i : Nat) (hi : i < 64) : Ans ctx core_set_has.n [.i .u64 S, .i .i64 i] (.b (S.testBit i)) := by
  refine ans core_set_has.f ?_
  have h := has_bit S i
  obtain ⟨Q, hQ⟩ : ∃ Q : Nat, Q = S / 2 ^ i := ⟨_, rfl⟩
  rw [← hQ] at h
  have r1 : bin .shr (.i .u64 S) (.i .u64 i) = some (.i .u64 (Q : Nat)) := by rw [hQ]; exact bin_shr hi
  have r2 : bin .and (.i .u64 Q) (.i .u64 1) = some (.i .u64 ((Q % 2 : Nat) : Int)) := bin_and1
  cases hb : S.testBit i
  · have hz : Q % 2 = 0 := by
      rw [hb] at h
      simp at h
      omega
    rw [hz] at r2
    simp +contextual (disch := omega) [Nat.add_assoc, Int.add_assoc, if_pos, if_neg, -Int.not_lt, -Int.not_le, -Nat.not_lt, -Nat.not_le, -List.length_flatMap, core_set_has.c, r1, r2]
  · have hz : Q % 2 = 1 := by
      have := h.2 hb
      omega
    rw [hz] at r2
    simp +contextual (disch := omega) [Nat.add_assoc, Int.add_assoc, if_pos, if_neg, -Int.not_lt, -Int.not_le, -Nat.not_lt, -Nat.not_le, -List.length_flatMap, core_set_has.c, r1, r2]
theorem core_set_without.a (S i : Nat) (hi : i < 64) : Ans ctx core_set_without.n [.i .u64 S, .i .i64 i] (.i .u64 (offB S i : Nat)) := by
  refine ans core_set_without.f ?_
  obtain ⟨Q, hQ⟩ : ∃ Q : Nat, Q = 2 ^ i := ⟨_, rfl⟩
  have r1 : bin .shl (.i .u64 1) (.i .u64 i) = some (.i .u64 (Q : Nat)) := by rw [hQ]; exact bin_shl1 hi
  have r2 : bin .andNot (.i .u64 S) (.i .u64 Q) = some (.i .u64 (offB S i : Nat)) := by rw [hQ]; exact bin_off
  simp +contextual (disch := omega) [Nat.add_assoc, Int.add_assoc, if_pos, if_neg, -Int.not_lt, -Int.not_le, -Nat.not_lt, -Nat.not_le, -List.length_flatMap, core_set_without.c, r1, r2]
theorem bitsL_s (S n : Nat) : bitsL S (n + 1) = bitsL S n ++ if S.testBit n then [n] else [] := by
  unfold bitsL
  rw [List.range_succ, List.filter_append]
  congr 1
  cases h : S.testBit n <;> simp [h]
theorem bitsL_len (S n : Nat) : (bitsL S n).length ≤ n := by
  have := List.length_filter_le (fun i => S.testBit i) (List.range n)
  rwa [List.length_range] at this
theorem bitsL_lt {S n i : Nat} (h : i ∈ bitsL S n) : i < n := List.mem_range.1 (List.mem_filter.1 h).1
def intL (l : List Nat) : List Int := l.map fun i : Nat => (i : Int)
theorem intL_len (l : List Nat) : (intL l).length = l.length := by simp [intL]
theorem intL_app (a b : List Nat) : intL (a ++ b) = intL a ++ intL b := by simp [intL]
theorem core_set_places.a (S n : Nat) (hn : n ≤ 64) : Ans ctx core_set_places.n [.i .u64 S, .i .i64 n] (sV cI (intL (bitsL S n))) := by
  refine ans core_set_places.f ?_
  simp +contextual (disch := omega) [Nat.add_assoc, Int.add_assoc, if_pos, if_neg, -Int.not_lt, -Int.not_le, -Nat.not_lt, -Nat.not_le, -List.length_flatMap, core_set_places.c]
  refine for_w (fun i e m x => e 0 = .i .u64 S ∧ e 1 = .i .i64 n ∧ e 6 = .i .i64 n ∧ e 7 = .i .i64 i ∧ Bf m (e 4) cI 1 (intL (bitsL S i)) 0 x) n ?_ ?_ ?_
  · simp +contextual (disch := omega) [Nat.add_assoc, Int.add_assoc, if_pos, if_neg, -Int.not_lt, -Int.not_le, -Nat.not_lt, -Nat.not_le, -List.length_flatMap]
    exact Bf.nil (f := cI) (k := 1)
  · rintro i e m x hi ⟨g0, g1, g6, g7, g4⟩
    have hs := bitsL_s S i
    have hl := bitsL_len S i
    have hl2 : (intL (bitsL S i)).length ≤ i := by rw [intL_len]; exact hl
    cases hb : S.testBit i <;> rw [hb] at hs
    · simp +contextual (disch := omega) [Nat.add_assoc, Int.add_assoc, if_pos, if_neg, -Int.not_lt, -Int.not_le, -Nat.not_lt, -Nat.not_le, -List.length_flatMap, core_set_places.b1, g0, g1, g6, g7, hi, ansK (core_set_has.a S i (by omega)), hb]
      exact g4.to (by rw [hs]; simp) (by omega)
    · simp +contextual (disch := omega) [Nat.add_assoc, Int.add_assoc, if_pos, if_neg, -Int.not_lt, -Int.not_le, -Nat.not_lt, -Nat.not_le, -List.length_flatMap, core_set_places.b1, g0, g1, g6, g7, hi, ansK (core_set_has.a S i (by omega)), hb]
      refine g4.ap [(i : Int)] (by simp +contextual (disch := omega) [Nat.add_assoc, Int.add_assoc, if_pos, if_neg, -Int.not_lt, -Int.not_le, -Nat.not_lt, -Nat.not_le, -List.length_flatMap]) (by omega) (by omega) rfl rfl (by simp; omega) ?_
      intro B' ws m2 p0 p1 p2 p3
      simp +contextual (disch := omega) [Nat.add_assoc, Int.add_assoc, if_pos, if_neg, -Int.not_lt, -Int.not_le, -Nat.not_lt, -Nat.not_le, -List.length_flatMap, p0, g0, g1, g6, g7, p1.stor, p1.cells]
      exact p1.to (by rw [hs, intL_app]; rfl) (by omega)
  · rintro e m x ⟨g0, g1, g6, g7, g4⟩
    simp +contextual (disch := omega) [Nat.add_assoc, Int.add_assoc, if_pos, if_neg, -Int.not_lt, -Int.not_le, -Nat.not_lt, -Nat.not_le, -List.length_flatMap, core_set_places.b1, g0, g1, g6, g7, g4.fz24]
theorem pick_len (l : List C) (p : List Nat) : (pickC l p).length = p.length := by simp [pickC]
theorem core_set_of.a (S : Nat) (l : List C) (hl : l.length ≤ 64) (hf : ∀ c ∈ l, c.frm.length ≤ 9223372036854775807) : Ans ctx core_set_of.n [.i .u64 S, sV cC l] (sV cC (pickC l (bitsL S l.length))) := by
  refine ans core_set_of.f ?_
  have hp := core_set_places.a S l.length hl
  have hb := bitsL_len S l.length
  have hlt : ∀ i ∈ bitsL S l.length, i < l.length := fun i h => bitsL_lt h
  generalize bitsL S l.length = p at *
  have hpl := intL_len p
  simp +contextual (disch := omega) [Nat.add_assoc, Int.add_assoc, if_pos, if_neg, -Int.not_lt, -Int.not_le, -Nat.not_lt, -Nat.not_le, -List.length_flatMap, core_set_of.c, ansK hp, hpl]
  refine for_w (fun i e m x => e 1 = sV cC l ∧ e 10 = sV cI (intL p) ∧ e 11 = .i .i64 p.length ∧ e 12 = .i .i64 i ∧ Bf m (e 4) cC 3 (pickC l (p.take i)) 0 x) p.length ?_ ?_ ?_
  · simp +contextual (disch := omega) [Nat.add_assoc, Int.add_assoc, if_pos, if_neg, -Int.not_lt, -Int.not_le, -Nat.not_lt, -Nat.not_le, -List.length_flatMap]
    exact Bf.nil
  · rintro i e m x hi ⟨g1, g10, g11, g12, g4⟩
    have h1 := hlt p[i] (List.getElem_mem hi)
    have e1 : (intL p)[i]'(by omega) = ((p[i] : Nat) : Int) := by simp [intL]
    have e2 : pickC l (p.take (i + 1)) = pickC l (p.take i) ++ [l[p[i]]] := by
      unfold pickC
      rw [List.take_succ_eq_append_getElem hi, List.map_append]
      simp [h1]
    have e3 : (pickC l (p.take i)).length = i := by rw [pick_len, List.length_take]; omega
    simp +contextual (disch := omega) [Nat.add_assoc, Int.add_assoc, if_pos, if_neg, -Int.not_lt, -Int.not_le, -Nat.not_lt, -Nat.not_le, -List.length_flatMap, core_set_of.b1, g1, g10, g11, g12, hi, hpl, e1, h1]
    refine g4.ap [l[p[i]]] (by simp +contextual (disch := omega) [Nat.add_assoc, Int.add_assoc, if_pos, if_neg, -Int.not_lt, -Int.not_le, -Nat.not_lt, -Nat.not_le, -List.length_flatMap]) (by omega) (by omega) (by simp) rfl (by rw [e3]; simp; omega) ?_
    intro B' ws m2 p0 p1 p2 p3
    simp +contextual (disch := omega) [Nat.add_assoc, Int.add_assoc, if_pos, if_neg, -Int.not_lt, -Int.not_le, -Nat.not_lt, -Nat.not_le, -List.length_flatMap, p0, g1, g10, g11, g12, p1.stor, p1.cells]
    exact p1.to e2.symm (by omega)
  · rintro e m x ⟨g1, g10, g11, g12, g4⟩
    rw [List.take_length] at g4
    simp +contextual (disch := omega) [Nat.add_assoc, Int.add_assoc, if_pos, if_neg, -Int.not_lt, -Int.not_le, -Nat.not_lt, -Nat.not_le, -List.length_flatMap, core_set_of.b1, g1, g10, g11, g12, g4.fz24]
end Pi


set_option linter.unusedSimpArgs false
set_option linter.unusedVariables false
namespace Pi
theorem core_lost.a (vars : Int) (l : List C) (hl : l.length ≤ 9223372036854775807) (hf : ∀ c ∈ l, c.frm.length ≤ 9223372036854775807) : Ans ctx core_lost.n [.i .i64 vars, sV cC l] (.b (rightC vars l && lostC vars.toNat l)) := by
  refine ans core_lost.f ?_
  have h := solve_Solve.a vars l hl hf
  unfold solveV at h
  unfold lostC
  cases hr : rightC vars l with
  | false =>
    rw [hr] at h
    simp +contextual (disch := omega) [Nat.add_assoc, Int.add_assoc, if_pos, if_neg, -Int.not_lt, -Int.not_le, -Nat.not_lt, -Nat.not_le, -List.length_flatMap, core_lost.c, ansK h]
  | true =>
    rw [hr] at h
    simp +contextual (disch := omega) [Nat.add_assoc, Int.add_assoc, if_pos, if_neg, -Int.not_lt, -Int.not_le, -Nat.not_lt, -Nat.not_le, -List.length_flatMap, core_lost.c, ansK h]
def coreV (vars : Int) (l : List C) : V := if rightC vars l = true then (if lostC vars.toNat l = true then .tu [sV cI (intL (coreL vars.toNat l)), .i .i64 0] else .tu [sV cI [], .i .i64 0]) else .tu [sV cI [], .i .i64 1]
theorem right_pick {n : Nat} {l : List C} {p : List Nat} (hr : rightC n l = true) (hp : ∀ i ∈ p, i < l.length) (hlen : p.length ≤ l.length) : rightC n (pickC l p) = true := by
  obtain ⟨r1, r2, r3, r4⟩ := right_ok hr
  simp [rightC, pick_len]
  exact ⟨by omega, fun c hc => r4 c (pick_mem hp hc)⟩
theorem fold_range {α : Type} (f : α → Nat → α) (z : α) (i : Nat) : (List.range (i + 1)).foldl f z = f ((List.range i).foldl f z) i := by
  rw [List.range_succ, List.foldl_append]; rfl
theorem core_Core.a (vars : Int) (l : List C) (hl : l.length ≤ 9223372036854775807) (hf : ∀ c ∈ l, c.frm.length ≤ 9223372036854775807) : Ans ctx core_Core.n [.i .i64 vars, sV cC l] (coreV vars l) := by
  refine ans core_Core.f ?_
  have hR := horn_Right.a vars l hl hf
  have hL := core_lost.a vars l hl hf
  unfold coreV
  cases hr : rightC vars l with
  | false => simp +contextual (disch := omega) [Nat.add_assoc, Int.add_assoc, if_pos, if_neg, -Int.not_lt, -Int.not_le, -Nat.not_lt, -Nat.not_le, -List.length_flatMap, core_Core.c, ansK hR, hr]
  | true =>
    obtain ⟨r1, r2, r3, r4⟩ := right_ok hr
    obtain ⟨n, rfl⟩ : ∃ n : Nat, vars = n := ⟨vars.toNat, by omega⟩
    rw [hr] at hL
    simp only [Int.toNat_natCast, Bool.true_and] at hL ⊢
    cases hlo : lostC n l with
    | false =>
      rw [hlo] at hL
      simp +contextual (disch := omega) [Nat.add_assoc, Int.add_assoc, if_pos, if_neg, -Int.not_lt, -Int.not_le, -Nat.not_lt, -Nat.not_le, -List.length_flatMap, core_Core.c, ansK hR, hr, ansK hL]
    | true =>
      rw [hlo] at hL
      obtain ⟨Q, hQ⟩ : ∃ Q : Nat, Q = 2 ^ l.length := ⟨_, rfl⟩
      have q1 : bin .shl (.i .u64 1) (.i .u64 l.length) = some (.i .u64 (Q : Nat)) := by rw [hQ]; exact bin_shl1 (by omega)
      have q2 : 1 ≤ Q := by rw [hQ]; exact Nat.one_le_two_pow
      have q3 : Q < 2 ^ 64 := by rw [hQ]; exact pow_lt (by omega)
      simp +contextual (disch := omega) [Nat.add_assoc, Int.add_assoc, if_pos, if_neg, -Int.not_lt, -Int.not_le, -Nat.not_lt, -Nat.not_le, -List.length_flatMap, core_Core.c, ansK hR, hr, ansK hL, q1]
      refine for_w (fun i e m x => ∃ S : Nat, e 0 = .i .i64 n ∧ e 1 = sV cC l ∧ e 6 = .i .u64 S ∧ e 23 = .i .i64 l.length ∧ e 24 = .i .i64 i ∧ bitsL S l.length = (List.range i).foldl (stepL n l) (List.range l.length)) l.length ?_ ?_ ?_
      · refine ⟨Q - 1, ?_⟩
        simp +contextual (disch := omega) [Nat.add_assoc, Int.add_assoc, if_pos, if_neg, -Int.not_lt, -Int.not_le, -Nat.not_lt, -Nat.not_le, -List.length_flatMap]
        exact ⟨by omega, by rw [hQ]; exact bits_full⟩
      · rintro i e m x hi ⟨S, g0, g1, g6, g23, g24, gS⟩
        have hof := core_set_of.a (offB S i) l (by omega) hf
        have hbo : bitsL (offB S i) l.length = lessL (bitsL S l.length) i := bits_off (by omega)
        have hlt : ∀ j ∈ lessL (bitsL S l.length) i, j < l.length := fun j hj => bitsL_lt (mem_less.1 hj).1
        have hle : (lessL (bitsL S l.length) i).length ≤ l.length := Nat.le_trans (less_len _ _) (bitsL_len _ _)
        rw [hbo] at hof
        have hL2 := core_lost.a n (pickC l (lessL (bitsL S l.length) i)) (by rw [pick_len]; omega) (fun c hc => hf c (pick_mem hlt hc))
        rw [right_pick hr hlt hle] at hL2
        simp only [Int.toNat_natCast, Bool.true_and] at hL2
        have hst : stepL n l (bitsL S l.length) i = if lostC n (pickC l (lessL (bitsL S l.length) i)) then lessL (bitsL S l.length) i else bitsL S l.length := rfl
        cases hlo2 : lostC n (pickC l (lessL (bitsL S l.length) i)) with
        | false =>
          rw [hlo2] at hL2 hst
          simp +contextual (disch := omega) [Nat.add_assoc, Int.add_assoc, if_pos, if_neg, -Int.not_lt, -Int.not_le, -Nat.not_lt, -Nat.not_le, -List.length_flatMap, core_Core.b1, g0, g1, g6, g23, g24, hi, ansK (core_set_without.a S i (by omega)), ansK hof, ansK hL2]
          rw [fold_range, ← gS, hst]
          exact ⟨S, rfl, by simp⟩
        | true =>
          rw [hlo2] at hL2 hst
          simp +contextual (disch := omega) [Nat.add_assoc, Int.add_assoc, if_pos, if_neg, -Int.not_lt, -Int.not_le, -Nat.not_lt, -Nat.not_le, -List.length_flatMap, core_Core.b1, g0, g1, g6, g23, g24, hi, ansK (core_set_without.a S i (by omega)), ansK hof, ansK hL2]
          rw [fold_range, ← gS, hst, ← hbo]
          exact ⟨offB S i, rfl, by simp⟩
      · rintro e m x ⟨S, g0, g1, g6, g23, g24, gS⟩
        have hp := core_set_places.a S l.length (by omega)
        rw [gS] at hp
        simp +contextual (disch := omega) [Nat.add_assoc, Int.add_assoc, if_pos, if_neg, -Int.not_lt, -Int.not_le, -Nat.not_lt, -Nat.not_le, -List.length_flatMap, core_Core.b1, g0, g1, g6, g23, g24, ansK hp]
        rfl
theorem ref10_some.a (l : List C) (p : List Nat) (hl : l.length ≤ 9223372036854775807) (hp : ∀ i ∈ p, i < l.length) (hpl : p.length ≤ 1000) : Ans ctx ref10_some.n [sV cC l, sV cI (intL p)] (sV cC (pickC l p)) := by
  refine ans ref10_some.f ?_
  have hil := intL_len p
  simp +contextual (disch := omega) [Nat.add_assoc, Int.add_assoc, if_pos, if_neg, -Int.not_lt, -Int.not_le, -Nat.not_lt, -Nat.not_le, -List.length_flatMap, ref10_some.c]
  refine for_w (fun i e m x => e 0 = sV cC l ∧ e 1 = sV cI (intL p) ∧ e 6 = .i .i64 i ∧ Bf m (e 5) cC 3 (pickC l (p.take i)) 0 x) p.length ?_ ?_ ?_
  · simp +contextual (disch := omega) [Nat.add_assoc, Int.add_assoc, if_pos, if_neg, -Int.not_lt, -Int.not_le, -Nat.not_lt, -Nat.not_le, -List.length_flatMap]
    exact Bf.nil
  · rintro i e m x hi ⟨g0, g1, g6, g5⟩
    have h1 := hp p[i] (List.getElem_mem hi)
    have e1 : (intL p)[i]'(by omega) = ((p[i] : Nat) : Int) := by simp [intL]
    have e2 : pickC l (p.take (i + 1)) = pickC l (p.take i) ++ [l[p[i]]] := by
      unfold pickC
      rw [List.take_succ_eq_append_getElem hi, List.map_append]
      simp [h1]
    have e3 : (pickC l (p.take i)).length = i := by rw [pick_len, List.length_take]; omega
    simp +contextual (disch := omega) [Nat.add_assoc, Int.add_assoc, if_pos, if_neg, -Int.not_lt, -Int.not_le, -Nat.not_lt, -Nat.not_le, -List.length_flatMap, ref10_some.b1, g0, g1, g6, hi, hil, e1, h1]
    refine g5.ap [l[p[i]]] (by simp +contextual (disch := omega) [Nat.add_assoc, Int.add_assoc, if_pos, if_neg, -Int.not_lt, -Int.not_le, -Nat.not_lt, -Nat.not_le, -List.length_flatMap]) (by omega) (by omega) (by simp) rfl (by rw [e3]; simp; omega) ?_
    intro B' ws m2 p0 p1 p2 p3
    simp +contextual (disch := omega) [Nat.add_assoc, Int.add_assoc, if_pos, if_neg, -Int.not_lt, -Int.not_le, -Nat.not_lt, -Nat.not_le, -List.length_flatMap, p0, g0, g1, g6, p1.stor, p1.cells]
    exact p1.to e2.symm (by omega)
  · rintro e m x ⟨g0, g1, g6, g5⟩
    rw [List.take_length] at g5
    simp +contextual (disch := omega) [Nat.add_assoc, Int.add_assoc, if_pos, if_neg, -Int.not_lt, -Int.not_le, -Nat.not_lt, -Nat.not_le, -List.length_flatMap, ref10_some.b1, g0, g1, g6, hil, g5.fz24]
end Pi


set_option linter.unusedSimpArgs false
set_option linter.unusedVariables false
namespace Pi
theorem ref_ok {vars : Int} {l : List C} (hl : l.length ≤ 9223372036854775807) (hf : ∀ c ∈ l, c.frm.length ≤ 9223372036854775807) (hr : rightC vars l = true) :
    ∃ m k, Ans ctx ref09_Solve.n [.i .i64 vars, sV cC l] (.tu [sV cI m, .b (!lostC vars.toNat l), .i .i64 k, .i .i64 0]) := by
  have h := ref09_Solve.a vars l hl hf
  rw [solveV, if_pos hr] at h
  exact ⟨_, _, by unfold lostC; rw [Bool.not_not]; exact h⟩
/-- A list in memory, read alone. -/
def Rd (m : Sto) (B : V) (p : List Nat) (x : Nat) : Prop := ∃ a cs ro, B = .ms a 0 p.length 1 ∧ m a = some (.cells cs ro) ∧ Rm cI 1 (intL p) cs ∧ a < x
theorem Rm.get1 {p : List Nat} {cs : List V} (h : Rm cI 1 (intL p) cs) {i : Nat} (hi : i < p.length) : cs[i]? = some (.i .i64 p[i]) := by
  have h1 := h.eq
  have h2 : ((intL p).flatMap cI)[i]? = some (.i .i64 p[i]) := by
    have : (intL p).flatMap cI = p.map fun j : Nat => (.i .i64 j : V) := by
      unfold intL
      clear hi h1 h
      induction p with
      | nil => rfl
      | cons a p ih => simp only [List.map_cons, List.flatMap_cons, ih]; rfl
    rw [this]
    simp [hi]
  rw [← h1, List.getElem?_take] at h2
  split at h2
  · exact h2
  · cases h2
theorem less_take {p : List Nat} {i k : Nat} (hk : k < p.length) : lessL (p.take (k + 1)) i = lessL (p.take k) i ++ if p[k] = i then [] else [p[k]] := by
  unfold lessL
  rw [List.take_succ_eq_append_getElem hk, List.filter_append]
  congr 1
  by_cases h : p[k] = i <;> simp [h]
theorem Bf.rd {m : Sto} {B : V} {p : List Nat} {lo x : Nat} (h : Bf m B cI 1 (intL p) lo x) (hp : p ≠ []) : Rd m B p x := by
  rcases h with ⟨_, h⟩ | ⟨a, cs, h1, h2, h3, h4, h5⟩
  · unfold intL at h
    rw [List.map_eq_nil_iff] at h
    exact absurd h hp
  · exact ⟨a, cs, false, by rw [h1, intL_len], h2, h3, h5⟩
theorem ref10_Core.a (vars : Int) (l : List C) (hl : l.length ≤ 9223372036854775807) (hf : ∀ c ∈ l, c.frm.length ≤ 9223372036854775807) : Ans ctx ref10_Core.n [.i .i64 vars, sV cC l] (coreV vars l) := by
  refine ans ref10_Core.f ?_
  unfold coreV
  cases hr : rightC vars l with
  | false =>
    have h := ref09_Solve.a vars l hl hf
    rw [solveV, if_neg (by rw [hr]; simp)] at h
    simp +contextual (disch := omega) [Nat.add_assoc, Int.add_assoc, if_pos, if_neg, -Int.not_lt, -Int.not_le, -Nat.not_lt, -Nat.not_le, -List.length_flatMap, ref10_Core.c, ansK h]
  | true =>
    obtain ⟨r1, r2, r3, r4⟩ := right_ok hr
    obtain ⟨n, rfl⟩ : ∃ n : Nat, vars = n := ⟨vars.toNat, by omega⟩
    obtain ⟨m0, k0, h⟩ := ref_ok hl hf hr
    simp only [Int.toNat_natCast] at h ⊢
    cases hlo : lostC n l with
    | false =>
      rw [hlo] at h
      simp +contextual (disch := omega) [Nat.add_assoc, Int.add_assoc, if_pos, if_neg, -Int.not_lt, -Int.not_le, -Nat.not_lt, -Nat.not_le, -List.length_flatMap, ref10_Core.c, ansK h]
    | true =>
      rw [hlo] at h
      simp +contextual (disch := omega) [Nat.add_assoc, Int.add_assoc, if_pos, if_neg, -Int.not_lt, -Int.not_le, -Nat.not_lt, -Nat.not_le, -List.length_flatMap, ref10_Core.c, ansK h]
      refine for_w (fun i e m x => e 0 = .i .i64 n ∧ e 1 = sV cC l ∧ e 11 = .i .i64 i ∧ Bf m (e 10) cI 1 (intL (List.range i)) 0 x) l.length ?_ ?_ ?_
      · simp +contextual (disch := omega) [Nat.add_assoc, Int.add_assoc, if_pos, if_neg, -Int.not_lt, -Int.not_le, -Nat.not_lt, -Nat.not_le, -List.length_flatMap]
        exact Bf.nil (f := cI) (k := 1)
      · rintro i e m x hi ⟨g0, g1, g11, g10⟩
        simp +contextual (disch := omega) [Nat.add_assoc, Int.add_assoc, if_pos, if_neg, -Int.not_lt, -Int.not_le, -Nat.not_lt, -Nat.not_le, -List.length_flatMap, ref10_Core.b1, g0, g1, g11, hi]
        refine g10.ap [(i : Int)] (by simp +contextual (disch := omega) [Nat.add_assoc, Int.add_assoc, if_pos, if_neg, -Int.not_lt, -Int.not_le, -Nat.not_lt, -Nat.not_le, -List.length_flatMap]) (by omega) (by omega) rfl rfl (by simp [intL]; omega) ?_
        intro B' ws m2 p0 p1 p2 p3
        simp +contextual (disch := omega) [Nat.add_assoc, Int.add_assoc, if_pos, if_neg, -Int.not_lt, -Int.not_le, -Nat.not_lt, -Nat.not_le, -List.length_flatMap, p0, g0, g1, g11, p1.stor, p1.cells]
        exact p1.to (by rw [List.range_succ, intL_app]; rfl) (by omega)
      · rintro e m x ⟨g0, g1, g11, g10⟩
        have hne : l.length ≠ 0 := by
          intro h0
          rw [List.length_eq_zero_iff] at h0
          rw [h0, lost_nil (by omega)] at hlo
          cases hlo
        simp +contextual (disch := omega) [Nat.add_assoc, Int.add_assoc, if_pos, if_neg, -Int.not_lt, -Int.not_le, -Nat.not_lt, -Nat.not_le, -List.length_flatMap, ref10_Core.b1, g0, g1, g11]
        refine for_w (fun i e m x => ∃ now, now = (List.range i).foldl (stepL n l) (List.range l.length) ∧ now ≠ [] ∧ now.length ≤ l.length ∧ (∀ j ∈ now, j < l.length) ∧ e 0 = .i .i64 n ∧ e 1 = sV cC l ∧ e 12 = .i .i64 i ∧ Rd m (e 10) now x) l.length ?_ ?_ ?_
        · refine ⟨List.range l.length, rfl, by simpa using hne, by simp, fun j hj => List.mem_range.1 hj, ?_⟩
          have hrd := (g10.up (x' := x + 5) (by omega) (fun _ _ _ => rfl)).rd (by simpa using hne)
          simp +contextual (disch := omega) [Nat.add_assoc, Int.add_assoc, if_pos, if_neg, -Int.not_lt, -Int.not_le, -Nat.not_lt, -Nat.not_le, -List.length_flatMap, g0, g1]
          exact hrd
        · rintro i e m x hi ⟨now, hnow, hnn, hnl, hnlt, q0, q1, q12, a, cs, ro, q10, qm, qr, qa⟩
          simp +contextual (disch := omega) [Nat.add_assoc, Int.add_assoc, if_pos, if_neg, -Int.not_lt, -Int.not_le, -Nat.not_lt, -Nat.not_le, -List.length_flatMap, ref10_Core.b3, q0, q1, q10, q12, hi]
          refine for_w (fun k e m' x' => e 0 = .i .i64 n ∧ e 1 = sV cC l ∧ e 10 = .ms a 0 now.length 1 ∧ e 12 = .i .i64 i ∧ e 14 = .i .i64 k ∧ m' a = some (.cells cs ro) ∧ x ≤ x' ∧ Bf m' (e 13) cI 1 (intL (lessL (now.take k) i)) x x') now.length ?_ ?_ ?_
          · simp +contextual (disch := omega) [Nat.add_assoc, Int.add_assoc, if_pos, if_neg, -Int.not_lt, -Int.not_le, -Nat.not_lt, -Nat.not_le, -List.length_flatMap, q0, q1, q10, q12, qm]
            exact Bf.nil (f := cI) (k := 1)
          · rintro k e m' x' hk ⟨p0, p1, p10, p12, p14, pm, px, p13⟩
            have hg := qr.get1 hk
            have hls := less_take (i := i) hk
            have hll : (lessL (now.take k) i).length ≤ k := Nat.le_trans (less_len _ _) (by rw [List.length_take]; omega)
            by_cases he : now[k] = i
            · rw [if_pos he, List.append_nil] at hls
              simp +contextual (disch := omega) [Nat.add_assoc, Int.add_assoc, if_pos, if_neg, -Int.not_lt, -Int.not_le, -Nat.not_lt, -Nat.not_le, -List.length_flatMap, ref10_Core.b2, p0, p1, p10, p12, p14, pm, hk, hg, he]
              exact ⟨by omega, p13.to (by rw [hls]) (by omega)⟩
            · rw [if_neg he] at hls
              have he' : ¬ ((now[k] : Nat) : Int) = (i : Int) := by omega
              simp +contextual (disch := omega) [Nat.add_assoc, Int.add_assoc, if_pos, if_neg, -Int.not_lt, -Int.not_le, -Nat.not_lt, -Nat.not_le, -List.length_flatMap, ref10_Core.b2, p0, p1, p10, p12, p14, pm, hk, hg, he, he']
              refine p13.ap [((now[k] : Nat) : Int)] (by simp +contextual (disch := omega) [Nat.add_assoc, Int.add_assoc, if_pos, if_neg, -Int.not_lt, -Int.not_le, -Nat.not_lt, -Nat.not_le, -List.length_flatMap]) (by omega) (by omega) rfl rfl (by simp [intL]; omega) ?_
              intro B' ws m2 z0 z1 z2 z3
              have z2' := z2 a qa
              simp +contextual (disch := omega) [Nat.add_assoc, Int.add_assoc, if_pos, if_neg, -Int.not_lt, -Int.not_le, -Nat.not_lt, -Nat.not_le, -List.length_flatMap, z0, p0, p1, p10, p12, p14, z1.stor, z1.cells, z2', pm]
              exact ⟨by omega, z1.to (by rw [hls, intL_app]; rfl) (by omega)⟩
          · rintro e m' x' ⟨p0, p1, p10, p12, p14, pm, px, p13⟩
            rw [List.take_length] at p13
            have hst : stepL n l now i = if lostC n (pickC l (lessL now i)) then lessL now i else now := rfl
            have hlt : ∀ j ∈ lessL now i, j < l.length := fun j hj => hnlt j (mem_less.1 hj).1
            have hle : (lessL now i).length ≤ now.length := less_len _ _
            have hrp := right_pick hr hlt (by omega)
            obtain ⟨m1, k1, hS⟩ := ref_ok (l := pickC l (lessL now i)) (by rw [pick_len]; omega) (fun c hc => hf c (pick_mem hlt hc)) hrp
            simp only [Int.toNat_natCast] at hS
            have hso := ref10_some.a l (lessL now i) hl hlt (by omega)
            have hfr : (List.range (i + 1)).foldl (stepL n l) (List.range l.length) = stepL n l now i := by rw [fold_range, ← hnow]
            rcases p13 with ⟨hB, hL⟩ | ⟨b, cs', hB, hm, hR, hb1, hb2⟩
            · have hL' : lessL now i = [] := by
                unfold intL at hL
                exact List.map_eq_nil_iff.1 hL
              rw [hL'] at hS hso hst
              have hln : lostC n (pickC l []) = false := lost_nil (by omega)
              rw [hln] at hS hst
              have hso' : Ans ctx ref10_some.n [sV cC l, .sl [] 0] (sV cC (pickC l [])) := hso
              simp +contextual (disch := omega) [Nat.add_assoc, Int.add_assoc, if_pos, if_neg, -Int.not_lt, -Int.not_le, -Nat.not_lt, -Nat.not_le, -List.length_flatMap, ref10_Core.b2, p0, p1, p10, p12, p14, pm, hB, ansK hso', ansK hS]
              rw [hfr, hst]
              exact ⟨hnn, hnl, hnlt, a, cs, ro, rfl, pm, qr, by omega⟩
            · have hR1 := hR.eq
              have hR2 := hR.le
              have hsv : sV cI (intL (lessL now i)) = .sl ((intL (lessL now i)).flatMap cI) (lessL now i).length := by unfold sV; rw [intL_len]
              rw [intL_len, Nat.mul_one] at hR1 hR2
              rw [intL_len] at hB
              rw [hsv] at hso
              cases hlo2 : lostC n (pickC l (lessL now i)) with
              | false =>
                rw [hlo2] at hS hst
                simp +contextual (disch := omega) [Nat.add_assoc, Int.add_assoc, if_pos, if_neg, -Int.not_lt, -Int.not_le, -Nat.not_lt, -Nat.not_le, -List.length_flatMap, ref10_Core.b2, p0, p1, p10, p12, p14, pm, hB, hm, hR.fz, hR1, hR2, ansK hso, ansK hS]
                rw [hfr, hst]
                exact ⟨hnn, hnl, hnlt, a, cs, ro, rfl, by simp +contextual (disch := omega) [Nat.add_assoc, Int.add_assoc, if_pos, if_neg, -Int.not_lt, -Int.not_le, -Nat.not_lt, -Nat.not_le, -List.length_flatMap, pm], qr, by omega⟩
              | true =>
                rw [hlo2] at hS hst
                simp +contextual (disch := omega) [Nat.add_assoc, Int.add_assoc, if_pos, if_neg, -Int.not_lt, -Int.not_le, -Nat.not_lt, -Nat.not_le, -List.length_flatMap, ref10_Core.b2, p0, p1, p10, p12, p14, pm, hB, hm, hR.fz, hR1, hR2, ansK hso, ansK hS]
                rw [hfr, hst]
                refine ⟨fun h => ?_, by simp only [if_true]; omega, hlt, b, cs', !(sV cC (pickC l (lessL now i))).scal, rfl, by simp +contextual (disch := omega) [Nat.add_assoc, Int.add_assoc, if_pos, if_neg, -Int.not_lt, -Int.not_le, -Nat.not_lt, -Nat.not_le, -List.length_flatMap], hR, by omega⟩
                simp only [if_true] at h
                rw [h] at hlo2
                have := lost_nil (n := n) (by omega)
                unfold pickC at hlo2
                rw [List.map_nil, this] at hlo2
                cases hlo2
        · rintro e m x ⟨now, hnow, hnn, hnl, hnlt, q0, q1, q12, a, cs, ro, q10, qm, qr, qa⟩
          have hR1 := qr.eq
          have hR2 := qr.le
          have hsv : sV cI (intL now) = .sl ((intL now).flatMap cI) now.length := by unfold sV; rw [intL_len]
          rw [intL_len, Nat.mul_one] at hR1 hR2
          simp +contextual (disch := omega) [Nat.add_assoc, Int.add_assoc, if_pos, if_neg, -Int.not_lt, -Int.not_le, -Nat.not_lt, -Nat.not_le, -List.length_flatMap, ref10_Core.b3, q0, q1, q10, q12, qm, qr.fz, hR1, hR2]
          rw [hnow]
          exact ⟨rfl, (intL_len _).symm⟩
end Pi


set_option linter.unusedSimpArgs false
set_option linter.unusedVariables false
namespace Pi
structure St where
  vars : Int
  cl : List C
  md : List Int
  deriving Inhabited, DecidableEq
def cS (s : St) : List V := [.i .i64 s.vars, sV cC s.cl, sV cI s.md]
@[simp] theorem cS_len (s : St) : (cS s).length = 3 := rfl
@[simp] theorem cS_fz (s : St) (D : Nat → Option (Bool × List V × List V × List Nat)) : frzL D (cS s) = some (cS s, []) := by simp [cS]
@[simp] theorem cS_0 (s : St) : (cS s)[0]? = some (.i .i64 s.vars) := rfl
@[simp] theorem cS_1 (s : St) : (cS s)[1]? = some (sV cC s.cl) := rfl
@[simp] theorem cS_2 (s : St) : (cS s)[2]? = some (sV cI s.md) := rfl
@[simp] theorem cS_take (s : St) : (cS s).take 3 = cS s := rfl
end Pi

