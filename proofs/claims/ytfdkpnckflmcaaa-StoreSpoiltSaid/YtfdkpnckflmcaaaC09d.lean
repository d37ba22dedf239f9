/- Contracts: the least model (layer 9): rounds, on the program's side. -/
import Derived.Test.YtfdkpnckflmcaaaC09c
set_option linter.unusedSimpArgs false
set_option linter.unusedVariables false
namespace Pi
def runV (r : List Int × Bool × Int) : V := .tu [sV cI r.1, .b r.2.1, .i .i64 r.2.2]
theorem great_pad {most : Int} {m : List Int} (h0 : 0 ≤ most) : greatC most (pad16 m) = greatC most m := by
  rw [Bool.eq_iff_iff]
  have h1 := great_false (m := pad16 m) h0
  have h2 := great_false (m := m) h0
  simp only [pad_at] at h1
  rw [← Bool.not_eq_false, ← Bool.not_eq_false, h1, h2]
theorem max_great {m : List Int} {most : Int} (h0 : 0 ≤ most) : decide (maxL m > most) = greatC most m := by
  obtain ⟨h1, h2, h3⟩ := fold_mx m 0
  unfold greatC
  rw [Bool.eq_iff_iff, List.any_eq_true]
  simp only [decide_eq_true_eq]
  constructor
  · intro h
    rcases h3 with h3 | h3
    · unfold maxL at h; omega
    · exact ⟨_, h3, h⟩
  · rintro ⟨v, hv, h⟩
    have := h2 v hv
    unfold maxL
    omega
theorem eqI_list : ∀ (a b : List Int), a.length = b.length → eqL (List.replicate a.length .i) (a.flatMap cI) (b.flatMap cI) = some (decide (a = b))
  | [], [], _ => rfl
  | x :: r, y :: s, h => by
    have ih := eqI_list r s (by simpa using h)
    simp only [List.length_cons, List.replicate_succ, List.flatMap_cons, cI_at, List.cons_append, List.nil_append, eqL, eqK, if_true, Option.bind_some]
    rw [ih]
    simp only [Option.map_some, Option.some.injEq]
    rw [Bool.eq_iff_iff]
    simp
theorem small_round {X : Int} {m : List Int} {l : List C} {n : Int} (h : SmallM X m) (hl : l.length ≤ 60) (hc : ∀ c ∈ l, okC n c = true) : SmallM (X + 60000) (roundC l m) := (fold_small h hc).mono (by omega)
theorem solve_run.a {l : List C} {frm : List Int} {most : Int} (hl : l.length ≤ 60) (hn : 1 ≤ frm.length ∧ frm.length ≤ 16) (hc : ∀ c ∈ l, okC frm.length c = true) (hm : 0 ≤ most ∧ most ≤ 100000) (hf : SmallM most frm) :
    Ans ctx solve_run.n [sV cC l, sV cI frm, .i .i64 most] (runV (lmC l frm most)) := by
  refine ans solve_run.f ?_
  have hc16 : ∀ c ∈ l, okC 16 c = true := fun c h => okC_mono (by omega) (hc c h)
  have hp := pad_len hn.2
  simp +contextual (disch := omega) [Nat.add_assoc, Int.add_assoc, if_pos, if_neg, -Int.not_lt, -Int.not_le, -Nat.not_lt, -Nat.not_le, -List.length_flatMap, solve_run.c, ansK (solve_of.a hn.2)]
  have h2 : ((pad16 frm).flatMap cI).length = 16 := by rw [flatI_len, hp]
  have h3 := flatI_all hp.symm
  refine openg_w solve_model_rounds.f rfl (.inl rfl) ?_
  simp +contextual (disch := omega) [Nat.add_assoc, Int.add_assoc, if_pos, if_neg, -Int.not_lt, -Int.not_le, -Nat.not_lt, -Nat.not_le, -List.length_flatMap, solve_model_rounds.c, h2, h3]
  refine gen_e (fun E => E 3 = .p 0 0 ∧ E 4 = .p 1 0 ∧ E 5 = .p 2 0 ∧ E 6 = .p 3 0 ∧ E 7 = .p 4 0 ∧ E 8 = .p 5 0 ∧ E 9 = .p 7 0 ∧ E 15 = .fn (.func solve_model_rounds_1.n) [] [.p 11 0, .p 12 0]) (by simp +contextual (disch := omega) [Nat.add_assoc, Int.add_assoc, if_pos, if_neg, -Int.not_lt, -Int.not_le, -Nat.not_lt, -Nat.not_le, -List.length_flatMap]) ?_
  rintro E ⟨E3, E4, E5, E6, E7, E8, E9, E15⟩
  refine rf_g fun A B hA hB => ?_
  simp +contextual (disch := omega) [Nat.add_assoc, Int.add_assoc, if_pos, if_neg, -Int.not_lt, -Int.not_le, -Nat.not_lt, -Nat.not_le, -List.length_flatMap, E15]
  refine openg_w solve_model_rounds_1.f rfl (.inr (by simp +contextual (disch := omega) [Nat.add_assoc, Int.add_assoc, if_pos, if_neg, -Int.not_lt, -Int.not_le, -Nat.not_lt, -Nat.not_le, -List.length_flatMap])) ?_
  simp +contextual (disch := omega) [Nat.add_assoc, Int.add_assoc, if_pos, if_neg, -Int.not_lt, -Int.not_le, -Nat.not_lt, -Nat.not_le, -List.length_flatMap, solve_model_rounds_1.c]
  have hroom : roomC most frm ≤ 1700000 := by
    have := room_bd hm.1 (m := frm) (fun i => (hf i).1)
    have h5 : frm.length * (most.toNat + 1) ≤ 16 * 100001 := Nat.mul_le_mul hn.2 (by omega)
    omega
  refine while_w (fun f e m x => ∃ (q : List Int) (k : Int), e 0 = .fn (.yield 17) [] [] ∧ e 1 = .p 11 0 ∧ e 2 = .p 12 0 ∧ 18 ≤ x ∧ m 16 = some .dfr ∧ m 17 = some (.loop ⟨E, [16], A, B, .ready, none⟩) ∧
    m 0 = some (.cells [sV cC l] false) ∧ m 1 = some (.cells [sV cI frm] false) ∧ m 2 = some (.cells [.i .i64 most] false) ∧ m 3 = some (.cells [.ns] false) ∧ m 4 = some (.cells [.b false] false) ∧ m 5 = some (.cells [.i .i64 k] false) ∧
    m 7 = some (.cells ((pad16 q).flatMap cI) false) ∧ m 11 = some (.cells ((pad16 q).flatMap cI) false) ∧ m 12 = some (.cells [sV cC l] false) ∧
    q.length = frm.length ∧ SmallM most q ∧ runC (f + 1) l most q k = lmC l frm most ∧ roomC most q ≤ f ∧ 0 ≤ k ∧ k + 60 * f ≤ 120000000) (roomC most frm) ?_ ?_
  · refine ⟨frm, 0, ?_⟩
    simp +contextual (disch := omega) [Nat.add_assoc, Int.add_assoc, if_pos, if_neg, -Int.not_lt, -Int.not_le, -Nat.not_lt, -Nat.not_le, -List.length_flatMap]
    exact ⟨hf, rfl, by omega⟩
  · rintro f e m x ⟨q, k, g0, g1, g2, gx, m16, m17, m0, m1, m2, m3, m4, m5, m7, m11, m12, hql, hqs, hrun, hrm, hk0, hkf⟩
    have hpq := pad_len (m := q) (by omega)
    have hrd : roundC l (pad16 q) = pad16 (roundC l q) := pad_fold (n := frm.length) (by omega) hc
    have hR := solve_model_round.a hpq ((pad_small hqs).mono (by omega)) hl hc16
    rw [hrd] at hR
    have hrl := round_len l q
    have hrs := small_round hqs hl hc
    have hpr := pad_len (m := roundC l q) (by omega)
    have hrle := round_le l q
    unfold runC at hrun
    generalize hr : roundC l q = r at *
    have hfl : ((pad16 q).flatMap cI).length = 16 := by rw [flatI_len, hpq]
    have hfr : ((pad16 r).flatMap cI).length = 16 := by rw [flatI_len, hpr]
    have htq := flatI_all hpq.symm
    have htr := flatI_all hpr.symm
    have hmx := slices_Max_int.a9 (m := pad16 r) ((pad_small hrs).nats (by omega)) (by omega) (by intro h; rw [h] at hpr; simp at hpr)
    have hsl : sV cI (pad16 r) = .sl ((pad16 r).flatMap cI) 16 := by unfold sV; rw [hpr]
    rw [hsl] at hmx
    have hgr := max_great (m := pad16 r) hm.1
    rw [great_pad hm.1] at hgr
    have heq := eqI_list (pad16 r) (pad16 q) (by omega)
    have hdec : decide (pad16 r = pad16 q) = decide (r = q) := by rw [Bool.eq_iff_iff]; simp only [decide_eq_true_eq]; exact pad_inj (by omega)
    rw [hpr, hdec] at heq
    have heq' : eqQ (.many (List.replicate 16 .i)) (.ag ((pad16 r).flatMap cI)) (.ag ((pad16 q).flatMap cI)) = some (decide (r = q)) := heq
    simp only [List.replicate] at heq'
    simp +contextual (disch := omega) [Nat.add_assoc, Int.add_assoc, if_pos, if_neg, -Int.not_lt, -Int.not_le, -Nat.not_lt, -Nat.not_le, -List.length_flatMap, solve_model_rounds_1.b1, g0, g1, g2, m11, m12, hfl, hfr, htq, htr, ansK hR]
    refine yield_w (q := ⟨E, [16], A, B, .ready, none⟩) (by simp +contextual (disch := omega) [Nat.add_assoc, Int.add_assoc, if_pos, if_neg, -Int.not_lt, -Int.not_le, -Nat.not_lt, -Nat.not_le, -List.length_flatMap, m17]) rfl rfl ?_
    refine w_as hA ?_
    simp +contextual (disch := omega) [Nat.add_assoc, Int.add_assoc, if_pos, if_neg, -Int.not_lt, -Int.not_le, -Nat.not_lt, -Nat.not_le, -List.length_flatMap, solve_run.a1, m17, hfr]
    refine w_as hB ?_
    have htk : ((pad16 r).flatMap cI).take frm.length = r.flatMap cI := by
      have := pad_take r
      rw [hrl, hql] at this
      have e := flat_take (f := cI) (k := 1) (pad16 r) frm.length
      rw [Nat.mul_one] at e
      rw [e, this]
    have hne : frm ≠ [] := by intro h; rw [h] at hn; simp at hn
    cases hg : greatC most r with
    | true =>
      rw [hg] at hgr hrun
      simp only [if_true] at hrun
      have hgt : most < maxL (pad16 r) := by simpa using hgr
      simp +contextual (disch := omega) [Nat.add_assoc, Int.add_assoc, if_pos, if_neg, -Int.not_lt, -Int.not_le, -Nat.not_lt, -Nat.not_le, -List.length_flatMap, solve_run.b2, m0, m1, m2, m3, m4, m5, m7, m16, m17, E3, E4, E5, E6, E7, E8, E9, hfl, hfr, htq, htr, ansK hmx]
      rw [← hrun]
      rfl
    | false =>
      rw [hg] at hgr hrun
      have hgt : ¬ (most < maxL (pad16 r)) := by simpa using hgr
      have hdq : ((pad16 q).flatMap cI).drop 16 = [] := List.drop_of_length_le (by omega)
      by_cases hq : r = q
      · simp only [hq, Bool.false_eq_true, if_false, if_true] at hrun
        rw [decide_eq_true hq] at heq'
        simp +contextual (disch := omega) [Nat.add_assoc, Int.add_assoc, if_pos, if_neg, -Int.not_lt, -Int.not_le, -Nat.not_lt, -Nat.not_le, -List.length_flatMap, solve_run.b2, m0, m1, m2, m3, m4, m5, m7, m16, m17, E3, E4, E5, E6, E7, E8, E9, hfl, hfr, htq, htr, hdq, ansK hmx, heq', htk, hne]
        rw [← hrun, hq, flatI_all hql.symm]
        simp only [runV, sV, hql]
      · simp only [hq, Bool.false_eq_true, if_false] at hrun
        rw [decide_eq_false hq] at heq'
        simp +contextual (disch := omega) [Nat.add_assoc, Int.add_assoc, if_pos, if_neg, -Int.not_lt, -Int.not_le, -Nat.not_lt, -Nat.not_le, -List.length_flatMap, solve_run.b2, m0, m1, m2, m3, m4, m5, m7, m16, m17, E3, E4, E5, E6, E7, E8, E9, hfl, hfr, htq, htr, hdq, ansK hmx, heq', htk, hne]
        have hlt := room_lt (most := most) hrl.symm hrle (fun e => hq e.symm) hg
        obtain ⟨g, rfl⟩ : ∃ g, f = g + 1 := ⟨f - 1, by omega⟩
        have hrs2 : SmallM most r := fun i => ⟨(hrs i).1, (great_false hm.1).1 hg i⟩
        exact ⟨g, by omega, g0, g1, g2, r, rfl, m12, by omega, hrs2, hrun, by omega, by omega, by omega⟩
end Pi
