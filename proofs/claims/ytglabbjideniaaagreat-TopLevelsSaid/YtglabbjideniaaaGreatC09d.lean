/- Contracts: the least model (layer 9): rounds, on the program's side. -/
import Derived.Test.YtglabbjideniaaaGreatC08e
import Derived.Test.YtglabbjideniaaaGreatC02a
import Derived.Test.YtglabbjideniaaaGreatC06d
set_option linter.unusedSimpArgs false
set_option linter.unusedVariables false
namespace Pi
def runV (r : List Int × Bool × Int) : V := .tu [sV cI r.1, .b r.2.1, .i .i64 r.2.2]
theorem great_pad {most : Int} {m : List Int} (h0 : 0 ≤ most) : greatC most (pad16 m) = greatC most m := by
  rw [Bool.eq_iff_iff]
  have h1 := great_false (m := pad16 m) h0
  have h2 := great_false (m := m) h0
  simp only [pad_at] at h1
  rw [← Bool.not_eq_false, ← Bool.not_eq_false, h1, h2]
theorem max_great {m : List Int} {most : Int} (h0 : 0 ≤ most) : decide (maxL m > most) = greatC most m := by
  obtain ⟨h1, h2, h3⟩ := fold_mx m 0
  unfold greatC
  rw [Bool.eq_iff_iff, List.any_eq_true]
  simp only [decide_eq_true_eq]
  constructor
  · intro h
    rcases h3 with h3 | h3
    · unfold maxL at h; omega
    · exact ⟨_, h3, h⟩
  · rintro ⟨v, hv, h⟩
    have := h2 v hv
    unfold maxL
    omega
theorem eqI_list : ∀ (a b : List Int), a.length = b.length → eqL (List.replicate a.length .i) (a.flatMap cI) (b.flatMap cI) = some (decide (a = b))
  | [], [], _ => rfl
  | x :: r, y :: s, h => by
    have ih := eqI_list r s (by simpa using h)
    simp only [List.length_cons, List.replicate_succ, List.flatMap_cons, cI_at, List.cons_append, List.nil_append, eqL, eqK, if_true, Option.bind_some]
    rw [ih]
    simp only [Option.map_some, Option.some.injEq]
    rw [Bool.eq_iff_iff]
    simp
theorem small_round {X : Int} {m : List Int} {l : List C} {n : Int} (h : SmallM X m) (hl : l.length ≤ 60) (hc : ∀ c ∈ l, okC n c = true) : SmallM (X + 60000) (roundC l m) := (fold_small h hc).mono (by omega)
theorem solve_run.a {l : List C} {frm : List Int} {most : Int} (hl : l.length ≤ 60) (hn : 1 ≤ frm.length ∧ frm.length ≤ 16) (hc : ∀ c ∈ l, okC frm.length c = true) (hm : 0 ≤ most ∧ most ≤ 100000) (hf : SmallM most frm) :
    Ans ctx solve_run.n [sV cC l, sV cI frm, .i .i64 most] (runV (lmC l frm most)) := by
  refine ans solve_run.f ?_
  have hc16 : ∀ c ∈ l, okC 16 c = true := fun c h => okC_mono (by omega) (hc c h)
  have hp := pad_len hn.2
  simp +contextual (disch := omega) [Nat.add_assoc, Int.add_assoc, if_pos, if_neg, -Int.not_lt, -Int.not_le, -Nat.not_lt, -Nat.not_le, -List.length_flatMap, solve_run.c, ansK (solve_of.a hn.2)]
  have h2 : ((pad16 frm).flatMap cI).length = 16 := by rw [flatI_len, hp]
  have h3 := flatI_all hp.symm
  refine openg_w solve_model_rounds.f rfl (.inl rfl) ?_
  simp +contextual (disch := omega) [Nat.add_assoc, Int.add_assoc, if_pos, if_neg, -Int.not_lt, -Int.not_le, -Nat.not_lt, -Nat.not_le, -List.length_flatMap, solve_model_rounds.c, h2, h3]
  refine gen_e (fun E => E 3 = .p 0 0 ∧ E 4 = .p 1 0 ∧ E 5 = .p 2 0 ∧ E 6 = .p 3 0 ∧ E 7 = .p 4 0 ∧ E 8 = .p 5 0 ∧ E 9 = .p 7 0 ∧ E 15 = .fn (.func solve_model_rounds_1.n) [] [.p 11 0, .p 12 0]) (by simp +contextual (disch := omega) [Nat.add_assoc, Int.add_assoc, if_pos, if_neg, -Int.not_lt, -Int.not_le, -Nat.not_lt, -Nat.not_le, -List.length_flatMap]) ?_
  rintro E ⟨E3, E4, E5, E6, E7, E8, E9, E15⟩
  refine rf_g fun A B hA hB => ?_
  simp +contextual (disch := omega) [Nat.add_assoc, Int.add_assoc, if_pos, if_neg, -Int.not_lt, -Int.not_le, -Nat.not_lt, -Nat.not_le, -List.length_flatMap, E15]
  refine openg_w solve_model_rounds_1.f rfl (.inr (by simp +contextual (disch := omega) [Nat.add_assoc, Int.add_assoc, if_pos, if_neg, -Int.not_lt, -Int.not_le, -Nat.not_lt, -Nat.not_le, -List.length_flatMap])) ?_
  simp +contextual (disch := omega) [Nat.add_assoc, Int.add_assoc, if_pos, if_neg, -Int.not_lt, -Int.not_le, -Nat.not_lt, -Nat.not_le, -List.length_flatMap, solve_model_rounds_1.c]
  have hroom : roomC most frm ≤ 1700000 := by
    have := room_bd hm.1 (m := frm) (fun i => (hf i).1)
    have h5 : frm.length * (most.toNat + 1) ≤ 16 * 100001 := Nat.mul_le_mul hn.2 (by omega)
    omega
  refine while_w (fun f e m x => ∃ (q : List Int) (k : Int), e 0 = .fn (.yield 17) [] [] ∧ e 1 = .p 11 0 ∧ e 2 = .p 12 0 ∧ 18 ≤ x ∧ m 16 = some .dfr ∧ m 17 = some (.loop ⟨E, [16], A, B, .ready, none⟩) ∧
    m 0 = some (.cells [sV cC l] false) ∧ m 1 = some (.cells [sV cI frm] false) ∧ m 2 = some (.cells [.i .i64 most] false) ∧ m 3 = some (.cells [.ns] false) ∧ m 4 = some (.cells [.b false] false) ∧ m 5 = some (.cells [.i .i64 k] false) ∧
    m 7 = some (.cells ((pad16 q).flatMap cI) false) ∧ m 11 = some (.cells ((pad16 q).flatMap cI) false) ∧ m 12 = some (.cells [sV cC l] false) ∧
    q.length = frm.length ∧ SmallM most q ∧ runC (f + 1) l most q k = lmC l frm most ∧ roomC most q ≤ f ∧ 0 ≤ k ∧ k + 60 * f ≤ 120000000) (roomC most frm) ?_ ?_
  · refine ⟨frm, 0, ?_⟩
    simp +contextual (disch := omega) [Nat.add_assoc, Int.add_assoc, if_pos, if_neg, -Int.not_lt, -Int.not_le, -Nat.not_lt, -Nat.not_le, -List.length_flatMap]
    exact ⟨hf, rfl, by omega⟩
  · rintro f e m x ⟨q, k, g0, g1, g2, gx, m16, m17, m0, m1, m2, m3, m4, m5, m7, m11, m12, hql, hqs, hrun, hrm, hk0, hkf⟩
    have hpq := pad_len (m := q) (by omega)
    have hrd : roundC l (pad16 q) = pad16 (roundC l q) := pad_fold (n := frm.length) (by omega) hc
    have hR := solve_model_round.a hpq ((pad_small hqs).mono (by omega)) hl hc16
    rw [hrd] at hR
    have hrl := round_len l q
    have hrs := small_round hqs hl hc
    have hpr := pad_len (m := roundC l q) (by omega)
    have hrle := round_le l q
    unfold runC at hrun
    generalize hr : roundC l q = r at *
    have hfl : ((pad16 q).flatMap cI).length = 16 := by rw [flatI_len, hpq]
    have hfr : ((pad16 r).flatMap cI).length = 16 := by rw [flatI_len, hpr]
    have htq := flatI_all hpq.symm
    have htr := flatI_all hpr.symm
    have hmx := slices_Max_int.a9 (m := pad16 r) ((pad_small hrs).nats (by omega)) (by omega) (by intro h; rw [h] at hpr; simp at hpr)
    have hsl : sV cI (pad16 r) = .sl ((pad16 r).flatMap cI) 16 := by unfold sV; rw [hpr]
    rw [hsl] at hmx
    have hgr := max_great (m := pad16 r) hm.1
    rw [great_pad hm.1] at hgr
    have heq := eqI_list (pad16 r) (pad16 q) (by omega)
    have hdec : decide (pad16 r = pad16 q) = decide (r = q) := by rw [Bool.eq_iff_iff]; simp only [decide_eq_true_eq]; exact pad_inj (by omega)
    rw [hpr, hdec] at heq
    have heq' : eqQ (.many (List.replicate 16 .i)) (.ag ((pad16 r).flatMap cI)) (.ag ((pad16 q).flatMap cI)) = some (decide (r = q)) := heq
    simp only [List.replicate] at heq'
    simp +contextual (disch := omega) [Nat.add_assoc, Int.add_assoc, if_pos, if_neg, -Int.not_lt, -Int.not_le, -Nat.not_lt, -Nat.not_le, -List.length_flatMap, solve_model_rounds_1.b1, g0, g1, g2, m11, m12, hfl, hfr, htq, htr, ansK hR]
    refine yield_w (q := ⟨E, [16], A, B, .ready, none⟩) (by simp +contextual (disch := omega) [Nat.add_assoc, Int.add_assoc, if_pos, if_neg, -Int.not_lt, -Int.not_le, -Nat.not_lt, -Nat.not_le, -List.length_flatMap, m17]) rfl rfl ?_
    refine w_as hA ?_
    simp +contextual (disch := omega) [Nat.add_assoc, Int.add_assoc, if_pos, if_neg, -Int.not_lt, -Int.not_le, -Nat.not_lt, -Nat.not_le, -List.length_flatMap, solve_run.a1, m17, hfr]
    refine w_as hB ?_
    have htk : ((pad16 r).flatMap cI).take frm.length = r.flatMap cI := by
      have := pad_take r
      rw [hrl, hql] at this
      have e := flat_take (f := cI) (k := 1) (pad16 r) frm.length
      rw [Nat.mul_one] at e
      rw [e, this]
    have hne : frm ≠ [] := by intro h; rw [h] at hn; simp at hn
    cases hg : greatC most r with
    | true =>
      rw [hg] at hgr hrun
      simp only [if_true] at hrun
      have hgt : most < maxL (pad16 r) := by simpa using hgr
      simp +contextual (disch := omega) [Nat.add_assoc, Int.add_assoc, if_pos, if_neg, -Int.not_lt, -Int.not_le, -Nat.not_lt, -Nat.not_le, -List.length_flatMap, solve_run.b2, m0, m1, m2, m3, m4, m5, m7, m16, m17, E3, E4, E5, E6, E7, E8, E9, hfl, hfr, htq, htr, ansK hmx]
      rw [← hrun]
      rfl
    | false =>
      rw [hg] at hgr hrun
      have hgt : ¬ (most < maxL (pad16 r)) := by simpa using hgr
      have hdq : ((pad16 q).flatMap cI).drop 16 = [] := List.drop_of_length_le (by omega)
      by_cases hq : r = q
      · simp only [hq, Bool.false_eq_true, if_false, if_true] at hrun
        rw [decide_eq_true hq] at heq'
        simp +contextual (disch := omega) [Nat.add_assoc, Int.add_assoc, if_pos, if_neg, -Int.not_lt, -Int.not_le, -Nat.not_lt, -Nat.not_le, -List.length_flatMap, solve_run.b2, m0, m1, m2, m3, m4, m5, m7, m16, m17, E3, E4, E5, E6, E7, E8, E9, hfl, hfr, htq, htr, hdq, ansK hmx, heq', htk, hne]
        rw [← hrun, hq, flatI_all hql.symm]
        simp only [runV, sV, hql]
      · simp only [hq, Bool.false_eq_true, if_false] at hrun
        rw [decide_eq_false hq] at heq'
        simp +contextual (disch := omega) [Nat.add_assoc, Int.add_assoc, if_pos, if_neg, -Int.not_lt, -Int.not_le, -Nat.not_lt, -Nat.not_le, -List.length_flatMap, solve_run.b2, m0, m1, m2, m3, m4, m5, m7, m16, m17, E3, E4, E5, E6, E7, E8, E9, hfl, hfr, htq, htr, hdq, ansK hmx, heq', htk, hne]
        have hlt := room_lt (most := most) hrl.symm hrle (fun e => hq e.symm) hg
        obtain ⟨g, rfl⟩ : ∃ g, f = g + 1 := ⟨f - 1, by omega⟩
        have hrs2 : SmallM most r := fun i => ⟨(hrs i).1, (great_false hm.1).1 hg i⟩
        exact ⟨g, by omega, g0, g1, g2, r, rfl, m12, by omega, hrs2, hrun, by omega, by omega, by omega⟩
end Pi


set_option linter.unusedSimpArgs false
set_option linter.unusedVariables false
namespace Pi
/-- What Solve tells. -/
def solveV (vars : Int) (l : List C) : V := if rightC vars l = true then .tu [sV cI (solveC vars.toNat l).1, .b (solveC vars.toNat l).2.1, .i .i64 (solveC vars.toNat l).2.2, .i .i64 0] else .tu [sV cI [], .b false, .i .i64 0, .i .i64 1]
theorem zeros_noughts (n : Nat) : zeros [V.i .i64 0] n = (noughts n).flatMap cI := by
  induction n with
  | zero => rfl
  | succ n ih => rw [zeros, ih]; unfold noughts; rw [List.replicate_succ]; rfl
theorem noughts_small {n : Nat} {X : Int} (h : 0 ≤ X) : SmallM X (noughts n) := fun i => by rw [noughts_at]; exact ⟨Int.le_refl _, h⟩
theorem solve_Solve.a (vars : Int) (l : List C) (hl : l.length ≤ 9223372036854775807) (hf : ∀ c ∈ l, c.frm.length ≤ 9223372036854775807) : Ans ctx solve_Solve.n [.i .i64 vars, sV cC l] (solveV vars l) := by
  refine ans solve_Solve.f ?_
  have hr := horn_Right.a vars l hl hf
  unfold solveV
  cases h1 : rightC vars l with
  | false => simp +contextual (disch := omega) [Nat.add_assoc, Int.add_assoc, if_pos, if_neg, -Int.not_lt, -Int.not_le, -Nat.not_lt, -Nat.not_le, -List.length_flatMap, solve_Solve.c, ansK hr, h1]
  | true =>
    obtain ⟨r1, r2, r3, r4⟩ := right_ok h1
    obtain ⟨n, rfl⟩ : ∃ n : Nat, vars = n := ⟨vars.toNat, by omega⟩
    have hb := mostS_bd r4
    have b1 : 0 ≤ ((n : Int) - 1) * mostS l := Int.mul_nonneg (by omega) hb.1
    have b2 : ((n : Int) - 1) * mostS l ≤ 15 * 1000 := Int.mul_le_mul (by omega) hb.2 hb.1 (by omega)
    have hR := solve_run.a (l := l) (frm := noughts n) (most := ((n : Int) - 1) * mostS l) r3 (by rw [noughts_len]; omega) (by rw [noughts_len]; exact r4) (by omega) (noughts_small b1)
    have e1 : lmC l (noughts n) (((n : Int) - 1) * mostS l) = solveC n l := by unfold solveC limC; rw [Int.zero_add]
    have e2 : sV cI (noughts n) = .sl ((noughts n).flatMap cI) n := by unfold sV; rw [noughts_len]
    rw [e1, e2, runV] at hR
    have hcl : ((noughts n).flatMap cI).length = n := by rw [flatI_len, noughts_len]
    have htk := flatI_all (noughts_len n).symm
    simp +contextual (disch := omega) [Nat.add_assoc, Int.add_assoc, if_pos, if_neg, -Int.not_lt, -Int.not_le, -Nat.not_lt, -Nat.not_le, -List.length_flatMap, solve_Solve.c, ansK hr, h1, ansK (solve_limit.a h1), zeros_noughts, hcl, htk, ansK hR]
end Pi


set_option linter.unusedSimpArgs false
set_option linter.unusedVariables false
namespace Pi
end Pi


set_option linter.unusedSimpArgs false
set_option linter.unusedVariables false
namespace Pi
/-- What a maker picks. -/
def pickS (l : List Nat) (i n : Nat) : Nat := (l[i]?.getD 0) % n
theorem pickS_lt (l : List Nat) (i n : Nat) (h : 0 < n) : pickS l i n < n := Nat.mod_lt _ h
theorem pick_w {m : Sto} {x a : Nat} {l : List Nat} {i n : Nat} {K : CR → Sto → Nat → Prop} (hm : m a = some (.cells [sV cU l, .i .i64 i] false)) (hb : Byt l) (hi : i ≤ 1000000000) (hn : 0 < n ∧ n ≤ 256)
    (hK : ∀ x', x ≤ x' → K (.ret (.i .i64 (pickS l i n : Nat))) (m.set a (some (.cells [sV cU l, .i .i64 ((i + 1 : Nat) : Int)] false))) x') :
    wpCall ctx (.fn (.func law02_Maker_Pick.n) [] []) [.p a 0, .i .i64 n] m x K := by
  refine open_w law02_Maker_Pick.f rfl (.inl rfl) ?_
  by_cases h : i < l.length
  · have hbi := hb.at h
    have hp : ((pickS l i n : Nat) : Int) = (l[i] : Int) % n := by simp [pickS, h]
    simp +contextual (disch := omega) [Nat.add_assoc, Int.add_assoc, if_pos, if_neg, -Int.not_lt, -Int.not_le, -Nat.not_lt, -Nat.not_le, -List.length_flatMap, law02_Maker_Pick.c, hm, h, Int.tmod_eq_emod_of_nonneg]
    have := hK (x + 34) (by omega)
    rw [hp] at this
    simpa using this
  · have hp : pickS l i n = 0 := by simp [pickS, List.getElem?_eq_none (by omega : l.length ≤ i)]
    rw [hp] at hK
    simp +contextual (disch := omega) [Nat.add_assoc, Int.add_assoc, if_pos, if_neg, -Int.not_lt, -Int.not_le, -Nat.not_lt, -Nat.not_le, -List.length_flatMap, law02_Maker_Pick.c, hm]
    have := hK (x + 20) (by omega)
    simpa using this

/-- What a maker makes: a level, and how many it has picked then. -/
def mkS (l : List Nat) (p q : Nat) : Nat → Nat → L × Nat
  | 0, i =>
    let k := pickS l i 10 % 4
    if (k = 1 ∧ 0 < p) ∨ (k = 2 ∧ 0 < p ∧ q = 0) then (.mk 5 (pickS l (i + 1) p : Nat) [], i + 2)
    else if (k = 2 ∨ k = 3) ∧ 0 < q then (.mk 6 (pickS l (i + 1) q : Nat) [], i + 2)
    else (.mk 1 0 [], i + 1)
  | d + 1, i =>
    let k := if d = 0 then pickS l i 10 % 4 else pickS l i 10
    if (k = 1 ∧ 0 < p) ∨ (k = 2 ∧ 0 < p ∧ q = 0) then (.mk 5 (pickS l (i + 1) p : Nat) [], i + 2)
    else if (k = 2 ∨ k = 3) ∧ 0 < q then (.mk 6 (pickS l (i + 1) q : Nat) [], i + 2)
    else if k < 4 then (.mk 1 0 [], i + 1)
    else
      let r := mkS l p q d (i + 1)
      let s := mkS l p q d r.2
      if k < 6 then (.mk 2 0 [r.1], r.2) else if k < 8 then (.mk 3 0 [r.1, s.1], s.2) else (.mk 4 0 [r.1, s.1], s.2)
theorem mkS_bd (l : List Nat) (p q d : Nat) : ∀ i, i ≤ (mkS l p q d i).2 ∧ (mkS l p q d i).2 ≤ i + 4 ^ (d + 1) := by
  induction d with
  | zero =>
    intro i
    simp only [mkS]
    split
    · simp
    · split <;> simp
  | succ d ih =>
    intro i
    have h0 : 4 ≤ 4 ^ (d + 1) := by
      calc 4 = 4 ^ 1 := rfl
        _ ≤ 4 ^ (d + 1) := Nat.pow_le_pow_right (by omega) (by omega)
    have h1 := ih (i + 1)
    have h2 := ih (mkS l p q d (i + 1)).2
    have h3 : 4 ^ (d + 1 + 1) = 4 * 4 ^ (d + 1) := by rw [Nat.pow_succ, Nat.mul_comm]
    simp only [mkS]
    generalize hk : (if d = 0 then pickS l i 10 % 4 else pickS l i 10) = k
    split
    · simp only; omega
    · split
      · simp only; omega
      · split
        · simp only; omega
        · split
          · simp only; omega
          · split <;> (simp only; omega)

theorem mkS_eq (l : List Nat) (p q d i : Nat) : mkS l p q (d + 1) i =
    (let k := if d = 0 then pickS l i 10 % 4 else pickS l i 10
    if (k = 1 ∧ 0 < p) ∨ (k = 2 ∧ 0 < p ∧ q = 0) then (.mk 5 (pickS l (i + 1) p : Nat) [], i + 2)
    else if (k = 2 ∨ k = 3) ∧ 0 < q then (.mk 6 (pickS l (i + 1) q : Nat) [], i + 2)
    else if k < 4 then (.mk 1 0 [], i + 1)
    else
      let r := mkS l p q d (i + 1)
      let s := mkS l p q d r.2
      if k < 6 then (.mk 2 0 [r.1], r.2) else if k < 8 then (.mk 3 0 [r.1, s.1], s.2) else (.mk 4 0 [r.1, s.1], s.2)) := rfl
/-- What is asked of what stands behind a maker's call. -/
def MadeK (l : List Nat) (a x d : Nat) (m : Sto) (r : L × Nat) (K : CR → Sto → Nat → Prop) : Prop :=
  ∀ cs m' x', cs.length = 3 → m' a = some (.cells [sV cU l, .i .i64 (r.2 : Nat)] false) → (∀ j, j < x → j ≠ a → m' j = m j) → x ≤ x' → FzAt m' x x' d cs (cL r.1) → K (.ret (.ag cs)) m' x'

set_option maxHeartbeats 4000000 in
theorem made_w (l : List Nat) (hb : Byt l) (p q : Nat) (hp : p ≤ 256) (hq : q ≤ 256) (a : Nat) : ∀ (d : Nat), d ≤ 10 → ∀ (i : Nat) {m : Sto} {x : Nat} {K : CR → Sto → Nat → Prop}, i + 4 ^ (d + 2) ≤ 1000000000 → a < x → m a = some (.cells [sV cU l, .i .i64 i] false) →
    MadeK l a x (d + 2) m (mkS l p q (d + 1) i) K →
    wpCall ctx (.fn (.func law02_Maker_Level.n) [] []) [.p a 0, .i .i64 p, .i .i64 q, .i .i64 ((d : Int) + 1)] m x K := by
  intro d
  induction d using Nat.strongRecOn with
  | ind d ih =>
  intro hd i m x K hi hax hm hK
  have h4 : 16 ≤ 4 ^ (d + 2) := by
    calc 16 = 4 ^ 2 := rfl
      _ ≤ 4 ^ (d + 2) := Nat.pow_le_pow_right (by omega) (by omega)
  refine open_w law02_Maker_Level.f rfl (.inl rfl) ?_
  simp +contextual (disch := omega) [Nat.add_assoc, Int.add_assoc, if_pos, if_neg, -Int.not_lt, -Int.not_le, -Nat.not_lt, -Nat.not_le, -List.length_flatMap, law02_Maker_Level.c]
  refine pick_w (l := l) (i := i) (n := 10) (by simp +contextual (disch := omega) [Nat.add_assoc, Int.add_assoc, if_pos, if_neg, -Int.not_lt, -Int.not_le, -Nat.not_lt, -Nat.not_le, -List.length_flatMap, hm]) hb (by omega) (by omega) ?_
  intro x1 hx1
  have hk := pickS_lt l i 10 (by omega)
  rw [mkS_eq] at hK
  generalize pickS l i 10 = k at hk hK
  have hk4 : ((k : Int)).tmod 4 = ((k % 4 : Nat) : Int) := by rw [Int.tmod_eq_emod_of_nonneg (by omega)]; omega
  generalize hkk : (if d = 0 then k % 4 else k) = kk at hK
  simp only at hK
  have hkc : (d = 0 ∧ (k : Int).tmod 4 = kk ∧ kk < 4) ∨ (0 < d ∧ (k : Int) = kk ∧ kk < 10) := by
    rcases Nat.eq_zero_or_pos d with h0 | h0
    · rw [if_pos h0] at hkk
      exact .inl ⟨h0, by rw [hk4, hkk], by omega⟩
    · rw [if_neg (by omega)] at hkk
      exact .inr ⟨h0, by omega, by omega⟩
  clear hk4 hkk
  have leaf : ∀ (m' : Sto) (x' : Nat) (u v : Int), FzAt m' x x' (d + 2) [.i .i64 u, .i .i64 v, .ns] (cL (.mk u v [])) := fun m' x' u v m2 _ dd _ => ⟨[], by simp⟩
  by_cases hA : (kk = 1 ∧ 0 < p) ∨ (kk = 2 ∧ 0 < p ∧ q = 0)
  · rw [if_pos hA] at hK
    have fin : ∀ (m' : Sto) (x' : Nat), x < x' → m' x = some (.cells [.i .i64 5, .i .i64 (pickS l (i + 1) p : Nat), .ns] false) → m' a = some (.cells [sV cU l, .i .i64 ((i + 2 : Nat) : Int)] false) → (∀ j, j < x → j ≠ a → m' j = m j) → K (.ret (.ag [.i .i64 5, .i .i64 (pickS l (i + 1) p : Nat), .ns])) m' x' :=
      fun m' x' h1 h2 h3 h4 => hK _ m' x' rfl h3 h4 (by omega) (leaf _ _ _ _)
    rcases hA with ⟨hA1, hA2⟩ | ⟨hA1, hA2, hA3⟩ <;> rcases hkc with ⟨h0, hk4, h5⟩ | ⟨h0, hk4, h5⟩
    all_goals (simp +contextual (disch := omega) [Nat.add_assoc, Int.add_assoc, if_pos, if_neg, -Int.not_lt, -Int.not_le, -Nat.not_lt, -Nat.not_le, -List.length_flatMap, hm, hk4])
    all_goals refine pick_w (l := l) (i := i + 1) (n := p) (by simp +contextual (disch := omega) [Nat.add_assoc, Int.add_assoc, if_pos, if_neg, -Int.not_lt, -Int.not_le, -Nat.not_lt, -Nat.not_le, -List.length_flatMap]) hb (by omega) (by omega) ?_
    all_goals intro x2 hx2
    all_goals (simp +contextual (disch := omega) [Nat.add_assoc, Int.add_assoc, if_pos, if_neg, -Int.not_lt, -Int.not_le, -Nat.not_lt, -Nat.not_le, -List.length_flatMap])
    all_goals refine fin _ _ (by omega) (by simp +contextual (disch := omega) [Nat.add_assoc, Int.add_assoc, if_pos, if_neg, -Int.not_lt, -Int.not_le, -Nat.not_lt, -Nat.not_le, -List.length_flatMap]) (by simp +contextual (disch := omega) [Nat.add_assoc, Int.add_assoc, if_pos, if_neg, -Int.not_lt, -Int.not_le, -Nat.not_lt, -Nat.not_le, -List.length_flatMap]) (by simp +contextual (disch := omega) [Nat.add_assoc, Int.add_assoc, if_pos, if_neg, -Int.not_lt, -Int.not_le, -Nat.not_lt, -Nat.not_le, -List.length_flatMap])
  · rw [if_neg hA] at hK
    by_cases hB : (kk = 2 ∨ kk = 3) ∧ 0 < q
    · rw [if_pos hB] at hK
      have fin : ∀ (m' : Sto) (x' : Nat), x < x' → m' x = some (.cells [.i .i64 6, .i .i64 (pickS l (i + 1) q : Nat), .ns] false) → m' a = some (.cells [sV cU l, .i .i64 ((i + 2 : Nat) : Int)] false) → (∀ j, j < x → j ≠ a → m' j = m j) → K (.ret (.ag [.i .i64 6, .i .i64 (pickS l (i + 1) q : Nat), .ns])) m' x' :=
        fun m' x' h1 h2 h3 h4 => hK _ m' x' rfl h3 h4 (by omega) (leaf _ _ _ _)
      obtain ⟨hB1, hB2⟩ := hB
      rcases hB1 with hB1 | hB1 <;> rcases Nat.eq_zero_or_pos p with h6 | h6 <;> rcases hkc with ⟨h0, hk4, h5⟩ | ⟨h0, hk4, h5⟩
      all_goals (simp +contextual (disch := omega) [Nat.add_assoc, Int.add_assoc, if_pos, if_neg, -Int.not_lt, -Int.not_le, -Nat.not_lt, -Nat.not_le, -List.length_flatMap, hm, hk4])
      all_goals refine pick_w (l := l) (i := i + 1) (n := q) (by simp +contextual (disch := omega) [Nat.add_assoc, Int.add_assoc, if_pos, if_neg, -Int.not_lt, -Int.not_le, -Nat.not_lt, -Nat.not_le, -List.length_flatMap]) hb (by omega) (by omega) ?_
      all_goals intro x2 hx2
      all_goals (simp +contextual (disch := omega) [Nat.add_assoc, Int.add_assoc, if_pos, if_neg, -Int.not_lt, -Int.not_le, -Nat.not_lt, -Nat.not_le, -List.length_flatMap])
      all_goals refine fin _ _ (by omega) (by simp +contextual (disch := omega) [Nat.add_assoc, Int.add_assoc, if_pos, if_neg, -Int.not_lt, -Int.not_le, -Nat.not_lt, -Nat.not_le, -List.length_flatMap]) (by simp +contextual (disch := omega) [Nat.add_assoc, Int.add_assoc, if_pos, if_neg, -Int.not_lt, -Int.not_le, -Nat.not_lt, -Nat.not_le, -List.length_flatMap]) (by simp +contextual (disch := omega) [Nat.add_assoc, Int.add_assoc, if_pos, if_neg, -Int.not_lt, -Int.not_le, -Nat.not_lt, -Nat.not_le, -List.length_flatMap])
    · rw [if_neg hB] at hK
      by_cases hC : kk < 4
      · rw [if_pos hC] at hK
        have fin : ∀ (m' : Sto) (x' : Nat), x < x' → m' a = some (.cells [sV cU l, .i .i64 ((i + 1 : Nat) : Int)] false) → (∀ j, j < x → j ≠ a → m' j = m j) → K (.ret (.ag [.i .i64 1, .i .i64 0, .ns])) m' x' :=
          fun m' x' h1 h3 h4 => hK _ m' x' rfl h3 h4 (by omega) (leaf _ _ _ _)
        rcases (by omega : kk = 0 ∨ kk = 1 ∨ kk = 2 ∨ kk = 3) with hC1 | hC1 | hC1 | hC1 <;> rcases hkc with ⟨h0, hk4, h5⟩ | ⟨h0, hk4, h5⟩
        all_goals (simp +contextual (disch := omega) [Nat.add_assoc, Int.add_assoc, if_pos, if_neg, -Int.not_lt, -Int.not_le, -Nat.not_lt, -Nat.not_le, -List.length_flatMap, hm, hk4])
        all_goals refine fin _ _ (by omega) (by simp +contextual (disch := omega) [Nat.add_assoc, Int.add_assoc, if_pos, if_neg, -Int.not_lt, -Int.not_le, -Nat.not_lt, -Nat.not_le, -List.length_flatMap]) (by simp +contextual (disch := omega) [Nat.add_assoc, Int.add_assoc, if_pos, if_neg, -Int.not_lt, -Int.not_le, -Nat.not_lt, -Nat.not_le, -List.length_flatMap])
      · rw [if_neg hC] at hK
        rcases hkc with ⟨h0, hk4, h5⟩ | ⟨h0, hk4, h5⟩
        · omega
        obtain ⟨d, rfl⟩ : ∃ e, d = e + 1 := ⟨d - 1, by omega⟩
        have h44 : 4 ^ (d + 1 + 2) = 4 * 4 ^ (d + 2) := by rw [Nat.pow_succ, Nat.mul_comm]
        have hdd : (d : Int) + 2 - 1 = d + 1 := by omega
        by_cases hD : kk < 6
        · rw [if_pos hD] at hK
          simp +contextual (disch := omega) [Nat.add_assoc, Int.add_assoc, if_pos, if_neg, -Int.not_lt, -Int.not_le, -Nat.not_lt, -Nat.not_le, -List.length_flatMap, hm, hk4, hdd]
          refine ih d (by omega) (by omega) (i + 1) (by omega) (by omega) (by simp +contextual (disch := omega) [Nat.add_assoc, Int.add_assoc, if_pos, if_neg, -Int.not_lt, -Int.not_le, -Nat.not_lt, -Nat.not_le, -List.length_flatMap]) ?_
          intro cs m1 x2 q1 q2 q3 q4 q5
          have ht : cs.take 3 = cs := List.take_of_length_le (by omega)
          have q3x := q3 x (by omega) (by omega)
          simp (disch := omega) at q3x
          generalize mkS l p q (d + 1) (i + 1) = r1 at hK q2 q5
          simp +contextual (disch := omega) [Nat.add_assoc, Int.add_assoc, if_pos, if_neg, -Int.not_lt, -Int.not_le, -Nat.not_lt, -Nat.not_le, -List.length_flatMap, q1, q3x, ht]
          refine hK _ _ _ rfl (by simp +contextual (disch := omega) [Nat.add_assoc, Int.add_assoc, if_pos, if_neg, -Int.not_lt, -Int.not_le, -Nat.not_lt, -Nat.not_le, -List.length_flatMap, q2]) (fun j h1 h2 => ?_) (by omega) ?_
          · have e2 := q3 j (by omega) h2
            simp +contextual (disch := omega) [Nat.add_assoc, Int.add_assoc, if_pos, if_neg, -Int.not_lt, -Int.not_le, -Nat.not_lt, -Nat.not_le, -List.length_flatMap, e2]
          · have z2 := (q5.low (lo' := x + 1) (by omega)).ms (esz := 3) (n := 1) (m' := (m1.set x2 (some (.cells cs false))).set x (some (.cells [.i .i64 2, .i .i64 0, .ms x2 0 1 3] false))) (x' := x2 + 3) (a := x2) (ro := false) (cs := cs) (by simp +contextual (disch := omega) [Nat.add_assoc, Int.add_assoc, if_pos, if_neg, -Int.not_lt, -Int.not_le, -Nat.not_lt, -Nat.not_le, -List.length_flatMap]) (by simp +contextual (disch := omega) [Nat.add_assoc, Int.add_assoc, if_pos, if_neg, -Int.not_lt, -Int.not_le, -Nat.not_lt, -Nat.not_le, -List.length_flatMap]) (by omega) (by omega) (by omega) (by simp)
            have z3 := (FzAt.fr (m := _) (lo := x + 1) (x := x2 + 3) (k := d + 1 + 2) (cs := [.i .i64 2, .i .i64 0]) (by simp)).app z2
            rw [cL_at]
            simpa [sV] using z3.low (lo' := x) (by omega)
        · rw [if_neg hD] at hK
          by_cases hE : kk < 8
          · rw [if_pos hE] at hK
            simp +contextual (disch := omega) [Nat.add_assoc, Int.add_assoc, if_pos, if_neg, -Int.not_lt, -Int.not_le, -Nat.not_lt, -Nat.not_le, -List.length_flatMap, hm, hk4, hdd]
            refine ih d (by omega) (by omega) (i + 1) (by omega) (by omega) (by simp +contextual (disch := omega) [Nat.add_assoc, Int.add_assoc, if_pos, if_neg, -Int.not_lt, -Int.not_le, -Nat.not_lt, -Nat.not_le, -List.length_flatMap]) ?_
            intro cs m1 x2 q1 q2 q3 q4 q5
            have ht : cs.take 3 = cs := List.take_of_length_le (by omega)
            simp +contextual (disch := omega) [Nat.add_assoc, Int.add_assoc, if_pos, if_neg, -Int.not_lt, -Int.not_le, -Nat.not_lt, -Nat.not_le, -List.length_flatMap, q1, hdd]
            have hb1 := mkS_bd l p q (d + 1) (i + 1)
            have hb2 : 4 ^ (d + 1 + 1) = 4 ^ (d + 2) := rfl
            have hdr : (cs ++ [V.i .i64 0, .i .i64 0, .ns]).drop 6 = [] := List.drop_of_length_le (by simp; omega)
            generalize mkS l p q (d + 1) (i + 1) = r1 at hK q2 q5 hb1
            refine ih d (by omega) (by omega) r1.2 (by omega) (by omega) q2 ?_
            intro cs2 m2 x3 p1 p2 p3 p4 p5
            have ht2 : cs2.take 3 = cs2 := List.take_of_length_le (by omega)
            have e1 := (p3 x (by omega) (by omega)).trans (q3 x (by omega) (by omega))
            simp (disch := omega) at e1
            generalize mkS l p q (d + 1) r1.2 = r2 at hK p2 p5
            simp +contextual (disch := omega) [Nat.add_assoc, Int.add_assoc, if_pos, if_neg, -Int.not_lt, -Int.not_le, -Nat.not_lt, -Nat.not_le, -List.length_flatMap, q1, p1, ht, ht2, e1, hdr]
            refine hK _ _ _ rfl (by simp +contextual (disch := omega) [Nat.add_assoc, Int.add_assoc, if_pos, if_neg, -Int.not_lt, -Int.not_le, -Nat.not_lt, -Nat.not_le, -List.length_flatMap, p2]) (fun j h1 h2 => ?_) (by omega) ?_
            · have e2 := (p3 j (by omega) h2).trans (q3 j (by omega) h2)
              simp +contextual (disch := omega) [Nat.add_assoc, Int.add_assoc, if_pos, if_neg, -Int.not_lt, -Int.not_le, -Nat.not_lt, -Nat.not_le, -List.length_flatMap, e2]
            · have z := (q5.low (lo' := x + 1) (by omega)).up (x' := x3) (m' := m2) (by omega) (Nat.le_refl _) (fun j h1 h2 => p3 j (by omega) (by omega))
              have z2 := (z.app (p5.low (by omega))).ms (esz := 3) (n := 2) (m' := (m2.set x3 (some (.cells (cs ++ cs2) false))).set x (some (.cells [.i .i64 3, .i .i64 0, .ms x3 0 2 3] false))) (x' := x3 + 3) (a := x3) (ro := false) (cs := cs ++ cs2) (by simp +contextual (disch := omega) [Nat.add_assoc, Int.add_assoc, if_pos, if_neg, -Int.not_lt, -Int.not_le, -Nat.not_lt, -Nat.not_le, -List.length_flatMap]) (by simp +contextual (disch := omega) [Nat.add_assoc, Int.add_assoc, if_pos, if_neg, -Int.not_lt, -Int.not_le, -Nat.not_lt, -Nat.not_le, -List.length_flatMap]) (by omega) (by omega) (by omega) (by simp)
              have z3 := (FzAt.fr (m := _) (lo := x + 1) (x := x3 + 3) (k := d + 1 + 2) (cs := [.i .i64 3, .i .i64 0]) (by simp)).app z2
              rw [cL_at]
              simpa [sV] using z3.low (lo' := x) (by omega)
          · rw [if_neg hE] at hK
            simp +contextual (disch := omega) [Nat.add_assoc, Int.add_assoc, if_pos, if_neg, -Int.not_lt, -Int.not_le, -Nat.not_lt, -Nat.not_le, -List.length_flatMap, hm, hk4, hdd]
            refine ih d (by omega) (by omega) (i + 1) (by omega) (by omega) (by simp +contextual (disch := omega) [Nat.add_assoc, Int.add_assoc, if_pos, if_neg, -Int.not_lt, -Int.not_le, -Nat.not_lt, -Nat.not_le, -List.length_flatMap]) ?_
            intro cs m1 x2 q1 q2 q3 q4 q5
            have ht : cs.take 3 = cs := List.take_of_length_le (by omega)
            simp +contextual (disch := omega) [Nat.add_assoc, Int.add_assoc, if_pos, if_neg, -Int.not_lt, -Int.not_le, -Nat.not_lt, -Nat.not_le, -List.length_flatMap, q1, hdd]
            have hb1 := mkS_bd l p q (d + 1) (i + 1)
            have hb2 : 4 ^ (d + 1 + 1) = 4 ^ (d + 2) := rfl
            have hdr : (cs ++ [V.i .i64 0, .i .i64 0, .ns]).drop 6 = [] := List.drop_of_length_le (by simp; omega)
            generalize mkS l p q (d + 1) (i + 1) = r1 at hK q2 q5 hb1
            refine ih d (by omega) (by omega) r1.2 (by omega) (by omega) q2 ?_
            intro cs2 m2 x3 p1 p2 p3 p4 p5
            have ht2 : cs2.take 3 = cs2 := List.take_of_length_le (by omega)
            have e1 := (p3 x (by omega) (by omega)).trans (q3 x (by omega) (by omega))
            simp (disch := omega) at e1
            generalize mkS l p q (d + 1) r1.2 = r2 at hK p2 p5
            simp +contextual (disch := omega) [Nat.add_assoc, Int.add_assoc, if_pos, if_neg, -Int.not_lt, -Int.not_le, -Nat.not_lt, -Nat.not_le, -List.length_flatMap, q1, p1, ht, ht2, e1, hdr]
            refine hK _ _ _ rfl (by simp +contextual (disch := omega) [Nat.add_assoc, Int.add_assoc, if_pos, if_neg, -Int.not_lt, -Int.not_le, -Nat.not_lt, -Nat.not_le, -List.length_flatMap, p2]) (fun j h1 h2 => ?_) (by omega) ?_
            · have e2 := (p3 j (by omega) h2).trans (q3 j (by omega) h2)
              simp +contextual (disch := omega) [Nat.add_assoc, Int.add_assoc, if_pos, if_neg, -Int.not_lt, -Int.not_le, -Nat.not_lt, -Nat.not_le, -List.length_flatMap, e2]
            · have z := (q5.low (lo' := x + 1) (by omega)).up (x' := x3) (m' := m2) (by omega) (Nat.le_refl _) (fun j h1 h2 => p3 j (by omega) (by omega))
              have z2 := (z.app (p5.low (by omega))).ms (esz := 3) (n := 2) (m' := (m2.set x3 (some (.cells (cs ++ cs2) false))).set x (some (.cells [.i .i64 4, .i .i64 0, .ms x3 0 2 3] false))) (x' := x3 + 3) (a := x3) (ro := false) (cs := cs ++ cs2) (by simp +contextual (disch := omega) [Nat.add_assoc, Int.add_assoc, if_pos, if_neg, -Int.not_lt, -Int.not_le, -Nat.not_lt, -Nat.not_le, -List.length_flatMap]) (by simp +contextual (disch := omega) [Nat.add_assoc, Int.add_assoc, if_pos, if_neg, -Int.not_lt, -Int.not_le, -Nat.not_lt, -Nat.not_le, -List.length_flatMap]) (by omega) (by omega) (by omega) (by simp)
              have z3 := (FzAt.fr (m := _) (lo := x + 1) (x := x3 + 3) (k := d + 1 + 2) (cs := [.i .i64 4, .i .i64 0]) (by simp)).app z2
              rw [cL_at]
              simpa [sV] using z3.low (lo' := x) (by omega)
end Pi


set_option linter.unusedSimpArgs false
set_option linter.unusedVariables false
namespace Pi
theorem zeros_cI (n : Nat) : zeros [V.i .i64 0] n = (List.replicate n (0 : Int)).flatMap cI := by
  induction n with
  | zero => rfl
  | succ n ih => simp [zeros, ih, List.replicate_succ]
theorem mkS_ok (l : List Nat) (p q : Nat) (hp : p ≤ 256) (hq : q ≤ 256) (d : Nat) : ∀ i, (mkS l p q d i).1.Ok := by
  have lf : ∀ (k : Int) (n : Nat), 0 ≤ k ∧ k ≤ 10 → n ≤ 256 → (L.mk k n []).Ok := fun k n h1 h2 => .mk (by simp) (by omega) (by omega) (by simp)
  have pk : ∀ i n, n ≤ 256 → pickS l i n ≤ 256 ∨ n = 0 := fun i n hn => by
    rcases Nat.eq_zero_or_pos n with h | h
    · exact .inr h
    · have := pickS_lt l i n h; omega
  induction d with
  | zero =>
    intro i
    simp only [mkS]
    split
    · rename_i h; rcases pk (i + 1) p hp with h1 | h1
      · exact lf _ _ (by omega) h1
      · omega
    · split
      · rename_i h; rcases pk (i + 1) q hq with h1 | h1
        · exact lf _ _ (by omega) h1
        · omega
      · exact lf 1 0 (by omega) (by omega)
  | succ d ih =>
    intro i
    rw [mkS_eq]
    simp only
    generalize (if d = 0 then pickS l i 10 % 4 else pickS l i 10) = k
    split
    · rename_i h; rcases pk (i + 1) p hp with h1 | h1
      · exact lf _ _ (by omega) h1
      · omega
    · split
      · rename_i h; rcases pk (i + 1) q hq with h1 | h1
        · exact lf _ _ (by omega) h1
        · omega
      · split
        · exact lf 1 0 (by omega) (by omega)
        · split
          · exact .mk (by simp) (by simp) (by simp) (by simpa using ih _)
          · split
            · exact .mk (by simp) (by simp) (by simp) (by simpa using ⟨ih _, ih _⟩)
            · exact .mk (by simp) (by simp) (by simp) (by simpa using ⟨ih _, ih _⟩)
end Pi


set_option linter.unusedSimpArgs false
set_option linter.unusedVariables false
namespace Pi
end Pi


set_option linter.unusedSimpArgs false
set_option linter.unusedVariables false
namespace Pi
/-! Made levels are right; what is more. -/
theorem mkS_right (l : List Nat) (p q : Nat) (d : Nat) : ∀ i, rightS (mkS l p q (d + 1) i).1 p q ((d : Int) + 1) = true := by
  induction d with
  | zero =>
    intro i
    rw [mkS_eq]
    simp only [if_true]
    have hk : pickS l i 10 % 4 < 4 := by omega
    generalize pickS l i 10 % 4 = k at hk
    split
    · rename_i h
      have := pickS_lt l (i + 1) p (by omega)
      rw [rightS_eq]
      simp [kidsS, namedS]
      omega
    · split
      · rename_i h
        have := pickS_lt l (i + 1) q (by omega)
        rw [rightS_eq]
        simp [kidsS, namedS]
        omega
      · rw [rightS_eq]
        simp [kidsS, namedS]
  | succ d ih =>
    intro i
    rw [mkS_eq]
    simp only
    generalize (if d + 1 = 0 then pickS l i 10 % 4 else pickS l i 10) = k
    have e1 : (((d + 1 : Nat) : Int) + 1 - 1) = (d : Int) + 1 := by omega
    split
    · rename_i h
      have := pickS_lt l (i + 1) p (by omega)
      rw [rightS_eq]
      simp [kidsS, namedS]
      omega
    · split
      · rename_i h
        have := pickS_lt l (i + 1) q (by omega)
        rw [rightS_eq]
        simp [kidsS, namedS]
        omega
      · split
        · rw [rightS_eq]
          simp [kidsS, namedS]
          omega
        · split
          · rw [rightS_eq, e1]
            simp [kidsS, namedS, ih]
            omega
          · split <;> (rw [rightS_eq, e1]; simp [kidsS, namedS, ih]; omega)
mutual
def szL (l : L) : Nat := match l with | .mk _ _ ks => 1 + szLs ks
def szLs (l : List L) : Nat := match l with | [] => 0 | a :: r => szL a + szLs r
end
theorem nodesL_le (ks : List L) (h : ∀ k ∈ ks, ∀ m, nodesS k m ≤ szL k) : ∀ (m n : Int), nodesL ks m n ≤ n + szLs ks := by
  induction ks with
  | nil => intro m n; simp [nodesL, szLs]
  | cons k r ih =>
    intro m n
    simp only [nodesL, szLs]
    have h1 := h k (by simp)
    have h2 := ih (fun k hk => h k (by simp [hk]))
    split
    · have := h1 (m - n)
      have := h2 m (n + nodesS k (m - n))
      omega
    · have := h2 m n
      omega
theorem nodesS_le (l : L) : ∀ m, nodesS l m ≤ szL l := by
  induction l using L.ind with
  | h l ih =>
    intro m
    cases l with
    | mk k n ks =>
      have := nodesL_le ks ih m 1
      simp only [nodesS, szL]
      omega
theorem mkS_sz (l : List Nat) (p q : Nat) (d : Nat) : ∀ i, szL (mkS l p q (d + 1) i).1 + 1 ≤ 2 ^ (d + 1) := by
  induction d with
  | zero =>
    intro i
    rw [mkS_eq]
    simp only [if_true]
    have hk : pickS l i 10 % 4 < 4 := by omega
    split
    · simp [szL, szLs]
    · split
      · simp [szL, szLs]
      · simp [szL, szLs]
  | succ d ih =>
    intro i
    have h0 : 2 ^ (d + 1 + 1) = 2 * 2 ^ (d + 1) := by rw [Nat.pow_succ, Nat.mul_comm]
    have h0' : 2 ^ (d + 2) = 2 * 2 ^ (d + 1) := h0
    have h1 : 2 ≤ 2 ^ (d + 1) := by
      calc 2 = 2 ^ 1 := rfl
        _ ≤ 2 ^ (d + 1) := Nat.pow_le_pow_right (by omega) (by omega)
    rw [mkS_eq]
    simp only
    generalize (if d + 1 = 0 then pickS l i 10 % 4 else pickS l i 10) = k
    have a1 := ih (i + 1)
    have a2 := ih (mkS l p q (d + 1) (i + 1)).2
    split
    · (try dsimp only); (try simp only [szL, szLs]); omega
    · split
      · (try dsimp only); (try simp only [szL, szLs]); omega
      · split
        · (try dsimp only); (try simp only [szL, szLs]); omega
        · split
          · (try dsimp only); (try simp only [szL, szLs]); omega
          · split <;> ((try dsimp only); (try simp only [szL, szLs]); omega)
theorem rightS_up (l : L) : ∀ (p q d d' : Int), d ≤ d' → rightS l p q d = true → rightS l p q d' = true := by
  induction l using L.ind with
  | h l ih =>
    intro p q d d' hd h
    obtain ⟨h1, h2, h3, h4⟩ := right_kid h
    rw [rightS_eq]
    simp only [Bool.and_eq_true, decide_eq_true_eq, Bool.not_eq_true', List.any_eq_false, Bool.not_eq_false]
    exact ⟨⟨⟨by omega, h2⟩, h3⟩, fun k hk => ih k hk p q (d - 1) (d' - 1) (by omega) (h4 k hk)⟩
end Pi


set_option linter.unusedSimpArgs false
set_option linter.unusedVariables false
namespace Pi
theorem RightS_of {l : L} {p q : Nat} (hp : p ≤ 5) (hq : q ≤ 10) (hz : szL l ≤ 100) (h : rightS l p q 12 = true) : RightS l p q = true := by
  unfold RightS
  have := nodesS_le l 101
  rw [if_neg (by omega)]
  simp [h]
  omega
theorem evalS_ok {l : L} {ps ms : List Int} {p q : Nat} (h1 : ps.length = p) (h2 : ms.length = q) (h3 : RightS l p q = true) (hp : Nats ps) (hm : Nats ms) : evalS l ps ms = .tu [.i .i64 (lvS l ps ms), .i .i64 0] := by
  unfold evalS
  subst h1 h2
  rw [nats_iff.2 hp, nats_iff.2 hm, h3]
  simp
end Pi


set_option linter.unusedSimpArgs false
set_option linter.unusedVariables false
namespace Pi
end Pi


set_option linter.unusedSimpArgs false
set_option linter.unusedVariables false
namespace Pi
theorem valL_le : ∀ {ns ps : List Int} {o t : Int}, ns.length = ps.length → (valL ns ps o ≤ t ↔ o ≤ t ∧ ∀ i : Nat, ns.getD i (-1) ≠ -1 → ps.getD i 0 + ns.getD i (-1) ≤ t)
  | [], [], o, t, _ => by simp [valL]
  | n :: ns, p :: ps, o, t, h => by
    rw [valL, valL_le (by simpa using h)]
    constructor
    · rintro ⟨h1, h2⟩
      refine ⟨by split at h1 <;> omega, fun i hi => ?_⟩
      cases i with
      | zero =>
        simp only [List.getD_cons_zero] at hi ⊢
        rw [if_neg hi] at h1
        omega
      | succ i => simpa using h2 i (by simpa using hi)
    · rintro ⟨h1, h2⟩
      refine ⟨?_, fun i hi => by simpa using h2 (i + 1) (by simpa using hi)⟩
      split
      · exact h1
      · rename_i hn
        have := h2 0 (by simpa using hn)
        simp only [List.getD_cons_zero] at this
        omega
  | [], _ :: _, _, _, h => by simp at h
  | _ :: _, [], _, _, h => by simp at h
theorem eq_of_le {a b : Int} (h : ∀ t, a ≤ t ↔ b ≤ t) : a = b := Int.le_antisymm ((h b).2 (Int.le_refl _)) ((h a).1 (Int.le_refl _))
def vF (f : F) (p : List Int) : Int := valL f.offs p f.cst
theorem vF_le {f : F} {p : List Int} {t : Int} (h : f.offs.length = p.length) : vF f p ≤ t ↔ f.cst ≤ t ∧ ∀ i : Nat, f.offs.getD i (-1) ≠ -1 → p.getD i 0 + f.offs.getD i (-1) ≤ t := valL_le h
theorem vF_cst {f : F} {p : List Int} (h : f.offs.length = p.length) : f.cst ≤ vF f p := ((vF_le h).1 (Int.le_refl _)).1
theorem vF_at {f : F} {p : List Int} (h : f.offs.length = p.length) (i : Nat) (hi : f.offs.getD i (-1) ≠ -1) : p.getD i 0 + f.offs.getD i (-1) ≤ vF f p := ((vF_le h).1 (Int.le_refl _)).2 i hi
theorem upO_getD (l : List Int) (i : Nat) : (l.map upO).getD i (-1) = upO (l.getD i (-1)) := by
  by_cases h : i < l.length
  · simp [h]
  · simp [List.getElem?_eq_none (by omega : l.length ≤ i), upO]
theorem zipM_getD : ∀ {a b : List Int} {i : Nat}, a.length = b.length → (zipM a b).getD i (-1) = max (a.getD i (-1)) (b.getD i (-1))
  | [], [], i, _ => by simp [zipM]
  | x :: a, y :: b, 0, _ => by simp [zipM]
  | x :: a, y :: b, i + 1, h => by
    have := zipM_getD (a := a) (b := b) (i := i) (by simpa using h)
    simpa [zipM] using this
  | [], _ :: _, _, h => by simp at h
  | _ :: _, [], _, h => by simp at h
theorem rep_getD (n i : Nat) : (List.replicate n (-1 : Int)).getD i (-1) = -1 := by
  by_cases h : i < n
  · simp [h]
  · simp [List.getElem?_eq_none (by simpa using h : (List.replicate n (-1 : Int)).length ≤ i)]
theorem set_getD {l : List Int} {i j : Nat} {v d : Int} : (l.set i v).getD j d = if i = j ∧ j < l.length then v else l.getD j d := by
  by_cases h : j < l.length
  · simp only [List.getD_eq_getElem?_getD, List.getElem?_set]
    by_cases hij : i = j
    · subst hij; simp [h]
    · simp [hij]
  · have h1 : (l.set i v).getD j d = d := by simp [List.getElem?_eq_none (by simpa using h : (l.set i v).length ≤ j)]
    have h2 : l.getD j d = d := by simp [List.getElem?_eq_none (by omega : l.length ≤ j)]
    rw [h1, h2, if_neg (by omega)]
theorem Bd.getD {p : Nat} {d : Int} {f : F} (h : Bd p d f) (hd : -1 ≤ d) (i : Nat) : -1 ≤ f.offs.getD i (-1) ∧ f.offs.getD i (-1) ≤ d := by
  by_cases hi : i < f.offs.length
  · have e : f.offs.getD i (-1) = f.offs[i] := by simp [hi]
    rw [e]
    exact h.2.2 _ (List.getElem_mem hi)
  · have e : f.offs.getD i (-1) = -1 := by simp [List.getElem?_eq_none (by omega : f.offs.length ≤ i)]
    rw [e]; omega
theorem vF_succ {f : F} {p : List Int} (h : f.offs.length = p.length) (hb : ∀ i, -1 ≤ f.offs.getD i (-1)) : vF (succF f) p = vF f p + 1 := by
  refine eq_of_le fun t => ?_
  have h' : (succF f).offs.length = p.length := by simp [succF, h]
  have e : vF f p + 1 ≤ t ↔ vF f p ≤ t - 1 := by omega
  rw [e, vF_le h', vF_le h]
  simp only [succF, upO_getD]
  constructor
  · rintro ⟨h1, h2⟩
    refine ⟨by omega, fun i hi => ?_⟩
    have hu : upO (f.offs.getD i (-1)) = f.offs.getD i (-1) + 1 := by unfold upO; rw [if_neg hi]
    have := h2 i (by have := hb i; rw [hu]; omega)
    rw [hu] at this
    omega
  · rintro ⟨h1, h2⟩
    refine ⟨by omega, fun i hi => ?_⟩
    have hne : f.offs.getD i (-1) ≠ -1 := fun h => hi (by rw [h]; rfl)
    have hu : upO (f.offs.getD i (-1)) = f.offs.getD i (-1) + 1 := by unfold upO; rw [if_neg hne]
    rw [hu]
    have := h2 i hne
    omega
theorem vF_join {f g : F} {p : List Int} (hf : f.offs.length = p.length) (hg : g.offs.length = p.length) (bf : ∀ i, -1 ≤ f.offs.getD i (-1)) (bg : ∀ i, -1 ≤ g.offs.getD i (-1)) : vF (joinF f g) p = max (vF f p) (vF g p) := by
  refine eq_of_le fun t => ?_
  have h' : (joinF f g).offs.length = p.length := by simp only [joinF]; rw [zipM_len (by rw [hf, hg]), hf]
  have e : max (vF f p) (vF g p) ≤ t ↔ vF f p ≤ t ∧ vF g p ≤ t := by omega
  rw [e, vF_le h', vF_le hf, vF_le hg]
  simp only [joinF, zipM_getD (by rw [hf, hg] : f.offs.length = g.offs.length)]
  constructor
  · rintro ⟨h1, h2⟩
    refine ⟨⟨by omega, fun i hi => ?_⟩, by omega, fun i hi => ?_⟩
    · have := bf i; have := bg i
      have := h2 i (by omega)
      omega
    · have := bf i; have := bg i
      have := h2 i (by omega)
      omega
  · rintro ⟨⟨h1, h2⟩, h3, h4⟩
    refine ⟨by omega, fun i hi => ?_⟩
    have b1 := bf i; have b2 := bg i
    by_cases hm : f.offs.getD i (-1) ≤ g.offs.getD i (-1)
    · have := h4 i (by omega)
      omega
    · have := h2 i (by omega)
      omega
theorem top_ne {f : F} (hb : ∀ i, -1 ≤ f.offs.getD i (-1)) (h : topF f ≠ -1) : ∃ i : Nat, f.offs.getD i (-1) = topF f ∧ i < f.offs.length := by
  rcases fmax_at f.offs (-1) with h1 | h1
  · exact (h h1).elim
  · obtain ⟨i, hi, e⟩ := List.mem_iff_getElem.1 h1
    exact ⟨i, by simp [hi, e, topF], hi⟩
/-- Values that a case lets be. -/
def Fits (Z : List Bool) (p : List Int) : Prop := p.length = Z.length ∧ ∀ i : Nat, i < Z.length → if Z.getD i false = true then p.getD i 0 = 0 else 1 ≤ p.getD i 0
theorem of_val (l : L) : ∀ (Z : List Bool) (p : List Int) (d : Int), rightS l Z.length 0 d = true → Fits Z p → vF (ofS l Z) p = lvS l p [] ∧ ∀ i : Nat, Z.getD i false = true → (ofS l Z).offs.getD i (-1) = -1 := by
  induction l using L.ind with
  | h l ih =>
  intro Z p d hr hF
  obtain ⟨h1, h2, h3, h4⟩ := right_kid hr
  have hkb := fun k hk => ofS_bd k Z (d - 1) (h4 k hk)
  have hd0 : ∀ k ∈ l.kids, -1 ≤ d - 1 - 1 := fun k hk => by have := (right_kid (h4 k hk)).1; omega
  have hbi := fun k hk i => (hkb k hk).getD (hd0 k hk) i
  have hlen := fun k hk => (hkb k hk).1.trans hF.1.symm
  rw [ofS_eq, lvS_eq]
  have plain : vF (plainF Z.length) p = 0 ∧ ∀ i : Nat, Z.getD i false = true → (plainF Z.length).offs.getD i (-1) = -1 := by
    refine ⟨eq_of_le fun t => ?_, fun i _ => rep_getD _ _⟩
    rw [vF_le (by simp [plainF, hF.1])]
    simp only [plainF, rep_getD]
    simp
  rcases right_kind hr with hk | hk | hk | hk | hk | hk
  · have e1 : ofK l.kind l.n Z (l.kids.map fun k => ofS k Z) = plainF Z.length := by simp [ofK, hk]
    have e2 : valK l.kind l.n p [] (l.kids.map fun k => lvS k p []) = 0 := by simp [valK, hk]
    rw [e1, e2]; exact plain
  · rw [hk] at h2
    obtain ⟨k0, hks⟩ := kids1 (l := l) (by rw [h2]; simp [kidsS])
    have m0 : k0 ∈ l.kids := by rw [hks]; simp
    have e1 : ofK l.kind l.n Z (l.kids.map fun k => ofS k Z) = succF (ofS k0 Z) := by rw [hks]; simp [ofK, hk]
    have e2 : valK l.kind l.n p [] (l.kids.map fun k => lvS k p []) = lvS k0 p [] + 1 := by rw [hks]; simp [valK, hk]
    obtain ⟨i1, i2⟩ := ih k0 m0 Z p (d - 1) (h4 k0 m0) hF
    rw [e1, e2, vF_succ (hlen k0 m0) (fun i => (hbi k0 m0 i).1), i1]
    refine ⟨rfl, fun i hi => ?_⟩
    simp only [succF]
    rw [upO_getD, i2 i hi]; rfl
  · rw [hk] at h2
    obtain ⟨k0, k1, hks⟩ := kids2 (l := l) (by rw [h2]; simp [kidsS])
    have m0 : k0 ∈ l.kids := by rw [hks]; simp
    have m1 : k1 ∈ l.kids := by rw [hks]; simp
    have e1 : ofK l.kind l.n Z (l.kids.map fun k => ofS k Z) = joinF (ofS k0 Z) (ofS k1 Z) := by rw [hks]; simp [ofK, hk]
    have e2 : valK l.kind l.n p [] (l.kids.map fun k => lvS k p []) = max (lvS k0 p []) (lvS k1 p []) := by rw [hks]; simp [valK, hk]
    obtain ⟨i1, i2⟩ := ih k0 m0 Z p (d - 1) (h4 k0 m0) hF
    obtain ⟨j1, j2⟩ := ih k1 m1 Z p (d - 1) (h4 k1 m1) hF
    rw [e1, e2, vF_join (hlen k0 m0) (hlen k1 m1) (fun i => (hbi k0 m0 i).1) (fun i => (hbi k1 m1 i).1), i1, j1]
    refine ⟨rfl, fun i hi => ?_⟩
    simp only [joinF]
    rw [zipM_getD ((hlen k0 m0).trans (hlen k1 m1).symm), i2 i hi, j2 i hi]; rfl
  · rw [hk] at h2
    obtain ⟨k0, k1, hks⟩ := kids2 (l := l) (by rw [h2]; simp [kidsS])
    have m0 : k0 ∈ l.kids := by rw [hks]; simp
    have m1 : k1 ∈ l.kids := by rw [hks]; simp
    have e1 : ofK l.kind l.n Z (l.kids.map fun k => ofS k Z) = if (ofS k1 Z).cst = 0 ∧ topF (ofS k1 Z) = -1 then ofS k1 Z else joinF (ofS k0 Z) (ofS k1 Z) := by rw [hks]; simp [ofK, hk]
    have e2 : valK l.kind l.n p [] (l.kids.map fun k => lvS k p []) = imaxS (lvS k0 p []) (lvS k1 p []) := by rw [hks]; simp [valK, hk]
    obtain ⟨i1, i2⟩ := ih k0 m0 Z p (d - 1) (h4 k0 m0) hF
    obtain ⟨j1, j2⟩ := ih k1 m1 Z p (d - 1) (h4 k1 m1) hF
    rw [e1, e2]
    by_cases c : (ofS k1 Z).cst = 0 ∧ topF (ofS k1 Z) = -1
    · rw [if_pos c]
      have h0 : vF (ofS k1 Z) p = 0 := eq_of_le fun t => by
        rw [vF_le (hlen k1 m1), c.1]
        refine ⟨fun h => h.1, fun h => ⟨h, fun i hi => ?_⟩⟩
        exfalso
        have hil : i < (ofS k1 Z).offs.length := by
          refine Classical.byContradiction fun hh => hi ?_
          simp [List.getElem?_eq_none (by omega : (ofS k1 Z).offs.length ≤ i)]
        have e : (ofS k1 Z).offs.getD i (-1) = (ofS k1 Z).offs[i] := by simp [hil]
        have h1 := fmax_mem (ofS k1 Z).offs (-1) _ (List.getElem_mem hil)
        have h2 := c.2
        unfold topF at h2
        have := hbi k1 m1 i
        rw [e] at hi this
        omega
      refine ⟨?_, j2⟩
      rw [h0] at j1
      rw [← j1, h0]
      simp [imaxS]
    · rw [if_neg c]
      have hpos : 0 < vF (ofS k1 Z) p := by
        by_cases c1 : (ofS k1 Z).cst = 0
        · have c2 : topF (ofS k1 Z) ≠ -1 := fun h => c ⟨c1, h⟩
          obtain ⟨i, hi, hil⟩ := top_ne (fun i => (hbi k1 m1 i).1) c2
          have hge : -1 ≤ topF (ofS k1 Z) := fmax_ge _ _
          have hz : Z.getD i false ≠ true := fun h => by have := j2 i h; omega
          have hfi := hF.2 i (by have := (hkb k1 m1).1; omega)
          rw [if_neg hz] at hfi
          have := vF_at (hlen k1 m1) i (by omega)
          omega
        · have := vF_cst (hlen k1 m1)
          have := (hkb k1 m1).2.1
          omega
      rw [vF_join (hlen k0 m0) (hlen k1 m1) (fun i => (hbi k0 m0 i).1) (fun i => (hbi k1 m1 i).1), i1, j1]
      rw [j1] at hpos
      refine ⟨?_, fun i hi => ?_⟩
      · unfold imaxS
        rw [if_neg (by omega)]
      · simp only [joinF]
        rw [zipM_getD ((hlen k0 m0).trans (hlen k1 m1).symm), i2 i hi, j2 i hi]; rfl
  · have hn : 0 ≤ l.n ∧ l.n < Z.length := by simp [namedS, hk] at h3; exact h3
    obtain ⟨q, hq⟩ : ∃ q : Nat, l.n = q := ⟨l.n.toNat, by omega⟩
    have hql : q < Z.length := by omega
    have hg1 : Z.getD q true = Z[q] := by simp [hql]
    have hg2 : Z.getD q false = Z[q] := by simp [hql]
    have e2 : valK l.kind l.n p [] (l.kids.map fun k => lvS k p []) = p.getD q 0 := by simp [valK, hk, hq]
    have hfi := hF.2 q hql
    rw [hg2] at hfi
    rw [e2]
    cases hz : Z[q] with
    | true =>
      have e1 : ofK l.kind l.n Z (l.kids.map fun k => ofS k Z) = plainF Z.length := by simp [ofK, hk, hq, hg1, hz, hql]
      rw [hz, if_pos rfl] at hfi
      rw [e1, hfi]; exact plain
    | false =>
      have e1 : ofK l.kind l.n Z (l.kids.map fun k => ofS k Z) = ⟨0, (List.replicate Z.length (-1)).set q 0⟩ := by simp [ofK, hk, hq, hg1, hz, hql]
      rw [hz, if_neg (by simp)] at hfi
      rw [e1]
      have hsg : ∀ i : Nat, ((List.replicate Z.length (-1 : Int)).set q 0).getD i (-1) = if q = i then 0 else -1 := fun i => by
        rw [set_getD, rep_getD]
        simp only [List.length_replicate]
        by_cases h : q = i
        · rw [if_pos ⟨h, by omega⟩, if_pos h]
        · rw [if_neg (by omega), if_neg h]
      refine ⟨eq_of_le fun t => ?_, fun i hi => ?_⟩
      · rw [vF_le (by simp [hF.1])]
        simp only [hsg]
        constructor
        · rintro ⟨h1, h2⟩
          have := h2 q (by simp)
          rw [if_pos rfl] at this
          omega
        · intro h
          refine ⟨by omega, fun i hi => ?_⟩
          by_cases hqi : q = i
          · subst hqi; rw [if_pos rfl]; omega
          · rw [if_neg hqi] at hi; exact (hi rfl).elim
      · simp only [hsg]
        rw [if_neg]
        rintro rfl
        rw [hg2, hz] at hi
        cases hi
  · simp [namedS, hk] at h3; omega
theorem flatten_val {l : L} {Z : List Bool} {p : List Int} {d : Int} (hr : rightS l Z.length 0 d = true) (hF : Fits Z p) : vF (flattenF l Z) p = lvS l p [] := by
  obtain ⟨i1, i2⟩ := of_val l Z p d hr hF
  have hbd := ofS_bd l Z d hr
  have hd := (right_kid hr).1
  have hb := fun i => hbd.getD (by omega) i
  have hlen : (ofS l Z).offs.length = p.length := hbd.1.trans hF.1.symm
  rw [← i1]
  unfold flattenF
  split
  · rename_i c
    obtain ⟨i, hi, hil⟩ := top_ne (fun i => (hb i).1) c.1
    have hge : -1 ≤ topF (ofS l Z) := fmax_ge _ _
    have hz : Z.getD i false ≠ true := fun h => by have := i2 i h; omega
    have hfi := hF.2 i (by have := hbd.1; omega)
    rw [if_neg hz] at hfi
    have hv := vF_at hlen i (by omega)
    refine eq_of_le fun t => ?_
    rw [vF_le (f := ⟨0, (ofS l Z).offs⟩) hlen, vF_le hlen]
    simp only
    constructor
    · rintro ⟨h1, h2⟩
      have := h2 i (by omega)
      exact ⟨by omega, h2⟩
    · rintro ⟨h1, h2⟩
      exact ⟨by have := hbd.2.1; omega, h2⟩
  · rfl
end Pi


set_option linter.unusedSimpArgs false
set_option linter.unusedVariables false
namespace Pi
end Pi


set_option linter.unusedSimpArgs false
set_option linter.unusedVariables false
namespace Pi
end Pi

