/- Contracts: the least model (layer 9): the document's rounds; Solve and From, on both sides. -/
import Derived.Test.YtbkkigmlkafeiaaC08f
import Derived.Test.YtbkkigmlkafeiaaC02a
import Derived.Test.YtbkkigmlkafeiaaC06f
import Derived.Test.YtbkkigmlkafeiaaEnc
set_option linter.unusedSimpArgs false
set_option linter.unusedVariables false
namespace Pi
theorem ref09_Limit.a {vars : Int} {l : List C} (hr : rightC vars l = true) : Ans ctx ref09_Limit.n [.i .i64 vars, sV cC l] (.i .i64 ((vars - 1) * mostS l)) := by
  refine ans ref09_Limit.f ?_
  obtain ⟨r1, r2, r3, r4⟩ := right_ok hr
  have hm := ref08_Most.a vars l (by omega) (fun c hc => Nat.le_trans (okC_six (r4 c hc)) (by omega))
  rw [mostV, if_pos hr] at hm
  have hb := mostS_bd r4
  have h1 : 0 ≤ (vars - 1) * mostS l := Int.mul_nonneg (by omega) hb.1
  have h2 : (vars - 1) * mostS l ≤ 15 * 1000 := Int.mul_le_mul (by omega) hb.2 hb.1 (by omega)
  simp +contextual (disch := omega) [Nat.add_assoc, Int.add_assoc, if_pos, if_neg, -Int.not_lt, -Int.not_le, -Nat.not_lt, -Nat.not_le, -List.length_flatMap, ref09_Limit.c, ansK hm]
theorem ref09_great.a {m : List Int} {most : Int} (hl : m.length ≤ 1000) : Ans ctx ref09_great.n [sV cI m, .i .i64 most] (.b (greatC most m)) := by
  refine ans ref09_great.f ?_
  simp +contextual (disch := omega) [Nat.add_assoc, Int.add_assoc, if_pos, if_neg, -Int.not_lt, -Int.not_le, -Nat.not_lt, -Nat.not_le, -List.length_flatMap, ref09_great.c]
  refine for_w (fun i e m' x => e 0 = sV cI m ∧ e 1 = .i .i64 most ∧ e 5 = .i .i64 i ∧ greatC most (m.take i) = false) m.length ?_ ?_ ?_
  · simp +contextual (disch := omega) [Nat.add_assoc, Int.add_assoc, if_pos, if_neg, -Int.not_lt, -Int.not_le, -Nat.not_lt, -Nat.not_le, -List.length_flatMap]
    rfl
  · rintro i e m' x hi ⟨g1, g2, g3, g4⟩
    have h1 : greatC most (m.take (i + 1)) = (greatC most (m.take i) || decide (most < m[i])) := take_any hi
    rw [g4] at h1
    by_cases h : most < m[i]
    · have : greatC most m = true := any_at hi (by simpa using h)
      simp +contextual (disch := omega) [Nat.add_assoc, Int.add_assoc, if_pos, if_neg, -Int.not_lt, -Int.not_le, -Nat.not_lt, -Nat.not_le, -List.length_flatMap, ref09_great.b1, g1, g2, g3, hi, this]
    · have h2 : greatC most (m.take (i + 1)) = false := by rw [h1]; simp; omega
      simp +contextual (disch := omega) [Nat.add_assoc, Int.add_assoc, if_pos, if_neg, -Int.not_lt, -Int.not_le, -Nat.not_lt, -Nat.not_le, -List.length_flatMap, ref09_great.b1, g1, g2, g3, hi, h2]
  · rintro e m' x ⟨g1, g2, g3, g4⟩
    rw [List.take_length] at g4
    simp +contextual (disch := omega) [Nat.add_assoc, Int.add_assoc, if_pos, if_neg, -Int.not_lt, -Int.not_le, -Nat.not_lt, -Nat.not_le, -List.length_flatMap, ref09_great.b1, g1, g2, g3, g4]
theorem fold_le (l : List C) (m : List Int) : LeM m (l.foldl stepC m) := round_le l m
theorem step_ne {m a : List Int} {c : C} (h : LeM m a) (hl : m.length = a.length) : stepC a c = m → a = m := by
  intro e
  have h1 := step_le a c
  rw [e] at h1
  exact LeM.anti hl.symm h1 h
theorem ref09_rounds.a {l : List C} {frm : List Int} {most : Int} (hl : l.length ≤ 60) (hn : 1 ≤ frm.length ∧ frm.length ≤ 16) (hc : ∀ c ∈ l, okC frm.length c = true) (hm : 0 ≤ most ∧ most ≤ 100000) (hf : SmallM most frm) :
    Ans ctx ref09_rounds.n [sV cC l, sV cI frm, .i .i64 most] (runV (lmC l frm most)) := by
  refine ans ref09_rounds.f ?_
  have hroom : roomC most frm ≤ 1700000 := by
    have := room_bd hm.1 (m := frm) (fun i => (hf i).1)
    have h5 : frm.length * (most.toNat + 1) ≤ 16 * 100001 := Nat.mul_le_mul hn.2 (by omega)
    omega
  have hne : frm ≠ [] := by intro h; rw [h] at hn; simp at hn
  simp +contextual (disch := omega) [Nat.add_assoc, Int.add_assoc, if_pos, if_neg, -Int.not_lt, -Int.not_le, -Nat.not_lt, -Nat.not_le, -List.length_flatMap, ref09_rounds.c, hne]
  refine while_w (fun f e m x => ∃ (q : List Int) (k : Int), e 0 = sV cC l ∧ e 2 = .i .i64 most ∧ e 9 = .ms 4 0 frm.length 1 ∧ e 10 = .i .i64 k ∧ 5 ≤ x ∧ m 4 = some (.cells (q.flatMap cI) false) ∧
    q.length = frm.length ∧ SmallM most q ∧ runC (f + 1) l most q k = lmC l frm most ∧ roomC most q ≤ f ∧ 0 ≤ k ∧ k + 60 * f ≤ 120000000) (roomC most frm) ?_ ?_
  · refine ⟨frm, 0, ?_⟩
    simp +contextual (disch := omega) [Nat.add_assoc, Int.add_assoc, if_pos, if_neg, -Int.not_lt, -Int.not_le, -Nat.not_lt, -Nat.not_le, -List.length_flatMap]
    exact ⟨hf, rfl, by omega⟩
  · rintro f e m x ⟨q, k, g0, g2, g9, g10, gx, m2, hql, hqs, hrun, hrm, hk0, hkf⟩
    simp +contextual (disch := omega) [Nat.add_assoc, Int.add_assoc, if_pos, if_neg, -Int.not_lt, -Int.not_le, -Nat.not_lt, -Nat.not_le, -List.length_flatMap, ref09_rounds.b2, g0, g2, g9, g10, m2]
    refine for_w (fun i e m x => ∃ p, p = (l.take i).foldl stepC q ∧ e 0 = sV cC l ∧ e 2 = .i .i64 most ∧ e 9 = .ms 4 0 frm.length 1 ∧ e 10 = .i .i64 (k + i) ∧ e 12 = .i .i64 i ∧ e 11 = .b (!decide (p = q)) ∧ 5 ≤ x ∧ m 4 = some (.cells (p.flatMap cI) false)) l.length ?_ ?_ ?_
    · refine ⟨q, rfl, ?_⟩
      simp +contextual (disch := omega) [Nat.add_assoc, Int.add_assoc, if_pos, if_neg, -Int.not_lt, -Int.not_le, -Nat.not_lt, -Nat.not_le, -List.length_flatMap, g0, g2, g9, g10, m2]
      omega
    · rintro i e m x hi ⟨p, hp, q0, q2, q9, q10, q12, q11, qx, qm⟩
      have hok := hc l[i] (List.getElem_mem hi)
      have hto := okC_to hok
      have hsm := fold_small (n := frm.length) hqs (fun c h => hc c (List.mem_of_mem_take h)) (l := l.take i)
      have hlt : (l.take i).length ≤ 60 := by rw [List.length_take]; omega
      have hpl : p.length = frm.length := by rw [hp, fold_len, hql]
      rw [← hp] at hsm
      have hps : SmallM 1100000 p := hsm.mono (by omega)
      have hle : LeM q p := hp ▸ fold_le _ _
      have hfo : (l.take (i + 1)).foldl stepC q = stepC p l[i] := by rw [take_fold hi, hp]
      rw [hfo]
      have hA := ref08_Asks.a (hps.nats (by omega)) (c := l[i]) (by rw [hpl]; exact hok) (by omega)
      have hA' : Ans ctx ref08_Asks.n [.ag (cC l[i]), .sl (p.flatMap cI) frm.length] (.i .i64 (asksS p l[i])) := by
        have e : sV cI p = .sl (p.flatMap cI) frm.length := by unfold sV; rw [hpl]
        rw [← e]; exact hA
      have hv := getD_get p 0 (by omega : l[i].to.var.toNat < p.length)
      have hcl : (p.flatMap cI).length = frm.length := by rw [flatI_len, hpl]
      have htk := flatI_all hpl.symm
      have hvb := hps l[i].to.var.toNat
      rw [hv] at hvb
      by_cases hlt : p[l[i].to.var.toNat] < asksS p l[i]
      · have hst : stepC p l[i] = p.set l[i].to.var.toNat (asksS p l[i]) := by unfold stepC; rw [hv, if_pos hlt]
        have hnq : stepC p l[i] ≠ q := by
          intro h
          have h1 := step_ne hle (by omega) h
          have h2 : (p.set l[i].to.var.toNat (asksS p l[i])).getD l[i].to.var.toNat 0 = p.getD l[i].to.var.toNat 0 := by rw [← hst, h, h1]
          rw [getD_set, if_pos ⟨rfl, by omega⟩, hv] at h2
          omega
        simp +contextual (disch := omega) [Nat.add_assoc, Int.add_assoc, if_pos, if_neg, -Int.not_lt, -Int.not_le, -Nat.not_lt, -Nat.not_le, -List.length_flatMap, ref09_rounds.b1, q0, q2, q9, q10, q12, q11, qm, hi, ansK hA', hcl, htk, flatI_get, hnq]
        rw [hst]; exact flatI_set (by omega)
      · have hst : stepC p l[i] = p := by unfold stepC; rw [hv, if_neg hlt]
        rw [hst]
        simp +contextual (disch := omega) [Nat.add_assoc, Int.add_assoc, if_pos, if_neg, -Int.not_lt, -Int.not_le, -Nat.not_lt, -Nat.not_le, -List.length_flatMap, ref09_rounds.b1, q0, q2, q9, q10, q12, q11, qm, hi, ansK hA', hcl, htk, flatI_get]
    · rintro e m x ⟨p, hp, q0, q2, q9, q10, q12, q11, qx, qm⟩
      rw [List.take_length] at hp
      have hpl : p.length = frm.length := by rw [hp, fold_len, hql]
      have hcl : (p.flatMap cI).length = frm.length := by rw [flatI_len, hpl]
      have htk := flatI_all hpl.symm
      have hgr := ref09_great.a (m := p) (most := most) (by omega)
      have hsl : sV cI p = .sl (p.flatMap cI) frm.length := by unfold sV; rw [hpl]
      rw [hsl] at hgr
      have hle : LeM q p := hp ▸ fold_le _ _
      have hrs := small_round hqs hl hc
      unfold runC at hrun
      have hpr : roundC l q = p := hp.symm
      rw [hpr] at hrun hrs
      cases hg : greatC most p with
      | true =>
        rw [hg] at hgr hrun
        simp only [if_true] at hrun
        simp +contextual (disch := omega) [Nat.add_assoc, Int.add_assoc, if_pos, if_neg, -Int.not_lt, -Int.not_le, -Nat.not_lt, -Nat.not_le, -List.length_flatMap, ref09_rounds.b1, q0, q2, q9, q10, q12, q11, qm, hcl, htk, ansK hgr]
        rw [← hrun]
        rfl
      | false =>
        rw [hg] at hgr hrun
        by_cases hq : p = q
        · simp only [hq, Bool.false_eq_true, if_false, if_true] at hrun
          rw [hq] at hgr hcl htk
          simp +contextual (disch := omega) [Nat.add_assoc, Int.add_assoc, if_pos, if_neg, -Int.not_lt, -Int.not_le, -Nat.not_lt, -Nat.not_le, -List.length_flatMap, ref09_rounds.b1, q0, q2, q9, q10, q12, q11, qm, hcl, htk, ansK hgr, hq]
          rw [← hrun]
          simp only [runV, sV, hql]
        · simp only [hq, Bool.false_eq_true, if_false] at hrun
          have hlt := room_lt (most := most) (by omega) hle (fun e => hq e.symm) hg
          obtain ⟨g, rfl⟩ : ∃ g, f = g + 1 := ⟨f - 1, by omega⟩
          have hrs2 : SmallM most p := fun i => ⟨(hrs i).1, (great_false hm.1).1 hg i⟩
          simp +contextual (disch := omega) [Nat.add_assoc, Int.add_assoc, if_pos, if_neg, -Int.not_lt, -Int.not_le, -Nat.not_lt, -Nat.not_le, -List.length_flatMap, ref09_rounds.b1, q0, q2, q9, q10, q12, q11, qm, hcl, htk, ansK hgr, hq]
          exact ⟨g, by omega, p, rfl, by omega, hrs2, hrun, by omega, by omega, by omega⟩
/-- What Solve tells. -/
def solveV (vars : Int) (l : List C) : V := if rightC vars l = true then .tu [sV cI (solveC vars.toNat l).1, .b (solveC vars.toNat l).2.1, .i .i64 (solveC vars.toNat l).2.2, .i .i64 0] else .tu [sV cI [], .b false, .i .i64 0, .i .i64 1]
theorem zeros_noughts (n : Nat) : zeros [V.i .i64 0] n = (noughts n).flatMap cI := by
  induction n with
  | zero => rfl
  | succ n ih => rw [zeros, ih]; unfold noughts; rw [List.replicate_succ]; rfl
theorem noughts_small {n : Nat} {X : Int} (h : 0 ≤ X) : SmallM X (noughts n) := fun i => by rw [noughts_at]; exact ⟨Int.le_refl _, h⟩
theorem solve_Solve.a (vars : Int) (l : List C) (hl : l.length ≤ 9223372036854775807) (hf : ∀ c ∈ l, c.frm.length ≤ 9223372036854775807) : Ans ctx solve_Solve.n [.i .i64 vars, sV cC l] (solveV vars l) := by
  refine ans solve_Solve.f ?_
  have hr := horn_Right.a vars l hl hf
  unfold solveV
  cases h1 : rightC vars l with
  | false => simp +contextual (disch := omega) [Nat.add_assoc, Int.add_assoc, if_pos, if_neg, -Int.not_lt, -Int.not_le, -Nat.not_lt, -Nat.not_le, -List.length_flatMap, solve_Solve.c, ansK hr, h1]
  | true =>
    obtain ⟨r1, r2, r3, r4⟩ := right_ok h1
    obtain ⟨n, rfl⟩ : ∃ n : Nat, vars = n := ⟨vars.toNat, by omega⟩
    have hb := mostS_bd r4
    have b1 : 0 ≤ ((n : Int) - 1) * mostS l := Int.mul_nonneg (by omega) hb.1
    have b2 : ((n : Int) - 1) * mostS l ≤ 15 * 1000 := Int.mul_le_mul (by omega) hb.2 hb.1 (by omega)
    have hR := solve_run.a (l := l) (frm := noughts n) (most := ((n : Int) - 1) * mostS l) r3 (by rw [noughts_len]; omega) (by rw [noughts_len]; exact r4) (by omega) (noughts_small b1)
    have e1 : lmC l (noughts n) (((n : Int) - 1) * mostS l) = solveC n l := by unfold solveC limC; rw [Int.zero_add]
    have e2 : sV cI (noughts n) = .sl ((noughts n).flatMap cI) n := by unfold sV; rw [noughts_len]
    rw [e1, e2, runV] at hR
    have hcl : ((noughts n).flatMap cI).length = n := by rw [flatI_len, noughts_len]
    have htk := flatI_all (noughts_len n).symm
    simp +contextual (disch := omega) [Nat.add_assoc, Int.add_assoc, if_pos, if_neg, -Int.not_lt, -Int.not_le, -Nat.not_lt, -Nat.not_le, -List.length_flatMap, solve_Solve.c, ansK hr, h1, ansK (solve_limit.a h1), zeros_noughts, hcl, htk, ansK hR]
theorem ref09_Solve.a (vars : Int) (l : List C) (hl : l.length ≤ 9223372036854775807) (hf : ∀ c ∈ l, c.frm.length ≤ 9223372036854775807) : Ans ctx ref09_Solve.n [.i .i64 vars, sV cC l] (solveV vars l) := by
  refine ans ref09_Solve.f ?_
  have hr := ref08_Right.a vars l hl hf
  unfold solveV
  cases h1 : rightC vars l with
  | false => simp +contextual (disch := omega) [Nat.add_assoc, Int.add_assoc, if_pos, if_neg, -Int.not_lt, -Int.not_le, -Nat.not_lt, -Nat.not_le, -List.length_flatMap, ref09_Solve.c, ansK hr, h1]
  | true =>
    obtain ⟨r1, r2, r3, r4⟩ := right_ok h1
    obtain ⟨n, rfl⟩ : ∃ n : Nat, vars = n := ⟨vars.toNat, by omega⟩
    have hb := mostS_bd r4
    have b1 : 0 ≤ ((n : Int) - 1) * mostS l := Int.mul_nonneg (by omega) hb.1
    have b2 : ((n : Int) - 1) * mostS l ≤ 15 * 1000 := Int.mul_le_mul (by omega) hb.2 hb.1 (by omega)
    have hR := ref09_rounds.a (l := l) (frm := noughts n) (most := ((n : Int) - 1) * mostS l) r3 (by rw [noughts_len]; omega) (by rw [noughts_len]; exact r4) (by omega) (noughts_small b1)
    have e1 : lmC l (noughts n) (((n : Int) - 1) * mostS l) = solveC n l := by unfold solveC limC; rw [Int.zero_add]
    have e2 : sV cI (noughts n) = .sl ((noughts n).flatMap cI) n := by unfold sV; rw [noughts_len]
    rw [e1, e2, runV] at hR
    have hcl : ((noughts n).flatMap cI).length = n := by rw [flatI_len, noughts_len]
    have htk := flatI_all (noughts_len n).symm
    simp +contextual (disch := omega) [Nat.add_assoc, Int.add_assoc, if_pos, if_neg, -Int.not_lt, -Int.not_le, -Nat.not_lt, -Nat.not_le, -List.length_flatMap, ref09_Solve.c, ansK hr, h1, ansK (ref09_Limit.a h1), zeros_noughts, hcl, htk, ansK hR]
end Pi


set_option linter.unusedSimpArgs false
set_option linter.unusedVariables false
namespace Pi
end Pi


set_option linter.unusedSimpArgs false
set_option linter.unusedVariables false
namespace Pi
/-- What a maker picks. -/
def pickS (l : List Nat) (i n : Nat) : Nat := (l[i]?.getD 0) % n
theorem pickS_lt (l : List Nat) (i n : Nat) (h : 0 < n) : pickS l i n < n := Nat.mod_lt _ h
theorem pick_w {m : Sto} {x a : Nat} {l : List Nat} {i n : Nat} {K : CR → Sto → Nat → Prop} (hm : m a = some (.cells [sV cU l, .i .i64 i] false)) (hb : Byt l) (hi : i ≤ 1000000000) (hn : 0 < n ∧ n ≤ 256)
    (hK : ∀ x', x ≤ x' → K (.ret (.i .i64 (pickS l i n : Nat))) (m.set a (some (.cells [sV cU l, .i .i64 ((i + 1 : Nat) : Int)] false))) x') :
    wpCall ctx (.fn (.func law02_Maker_Pick.n) [] []) [.p a 0, .i .i64 n] m x K := by
  refine open_w law02_Maker_Pick.f rfl (.inl rfl) ?_
  by_cases h : i < l.length
  · have hbi := hb.at h
    have hp : ((pickS l i n : Nat) : Int) = (l[i] : Int) % n := by simp [pickS, h]
    simp +contextual (disch := omega) [Nat.add_assoc, Int.add_assoc, if_pos, if_neg, -Int.not_lt, -Int.not_le, -Nat.not_lt, -Nat.not_le, -List.length_flatMap, law02_Maker_Pick.c, hm, h, Int.tmod_eq_emod_of_nonneg]
    have := hK (x + 34) (by omega)
    rw [hp] at this
    simpa using this
  · have hp : pickS l i n = 0 := by simp [pickS, List.getElem?_eq_none (by omega : l.length ≤ i)]
    rw [hp] at hK
    simp +contextual (disch := omega) [Nat.add_assoc, Int.add_assoc, if_pos, if_neg, -Int.not_lt, -Int.not_le, -Nat.not_lt, -Nat.not_le, -List.length_flatMap, law02_Maker_Pick.c, hm]
    have := hK (x + 20) (by omega)
    simpa using this

/-- What a maker makes: a level, and how many it has picked then. -/
def mkS (l : List Nat) (p q : Nat) : Nat → Nat → L × Nat
  | 0, i =>
    let k := pickS l i 10 % 4
    if (k = 1 ∧ 0 < p) ∨ (k = 2 ∧ 0 < p ∧ q = 0) then (.mk 5 (pickS l (i + 1) p : Nat) [], i + 2)
    else if (k = 2 ∨ k = 3) ∧ 0 < q then (.mk 6 (pickS l (i + 1) q : Nat) [], i + 2)
    else (.mk 1 0 [], i + 1)
  | d + 1, i =>
    let k := if d = 0 then pickS l i 10 % 4 else pickS l i 10
    if (k = 1 ∧ 0 < p) ∨ (k = 2 ∧ 0 < p ∧ q = 0) then (.mk 5 (pickS l (i + 1) p : Nat) [], i + 2)
    else if (k = 2 ∨ k = 3) ∧ 0 < q then (.mk 6 (pickS l (i + 1) q : Nat) [], i + 2)
    else if k < 4 then (.mk 1 0 [], i + 1)
    else
      let r := mkS l p q d (i + 1)
      let s := mkS l p q d r.2
      if k < 6 then (.mk 2 0 [r.1], r.2) else if k < 8 then (.mk 3 0 [r.1, s.1], s.2) else (.mk 4 0 [r.1, s.1], s.2)
theorem mkS_bd (l : List Nat) (p q d : Nat) : ∀ i, i ≤ (mkS l p q d i).2 ∧ (mkS l p q d i).2 ≤ i + 4 ^ (d + 1) := by
  induction d with
  | zero =>
    intro i
    simp only [mkS]
    split
    · simp
    · split <;> simp
  | succ d ih =>
    intro i
    have h0 : 4 ≤ 4 ^ (d + 1) := by
      calc 4 = 4 ^ 1 := rfl
        _ ≤ 4 ^ (d + 1) := Nat.pow_le_pow_right (by omega) (by omega)
    have h1 := ih (i + 1)
    have h2 := ih (mkS l p q d (i + 1)).2
    have h3 : 4 ^ (d + 1 + 1) = 4 * 4 ^ (d + 1) := by rw [Nat.pow_succ, Nat.mul_comm]
    simp only [mkS]
    generalize hk : (if d = 0 then pickS l i 10 % 4 else pickS l i 10) = k
    split
    · simp only; omega
    · split
      · simp only; omega
      · split
        · simp only; omega
        · split
          · simp only; omega
          · split <;> (simp only; omega)

theorem mkS_eq (l : List Nat) (p q d i : Nat) : mkS l p q (d + 1) i =
    (let k := if d = 0 then pickS l i 10 % 4 else pickS l i 10
    if (k = 1 ∧ 0 < p) ∨ (k = 2 ∧ 0 < p ∧ q = 0) then (.mk 5 (pickS l (i + 1) p : Nat) [], i + 2)
    else if (k = 2 ∨ k = 3) ∧ 0 < q then (.mk 6 (pickS l (i + 1) q : Nat) [], i + 2)
    else if k < 4 then (.mk 1 0 [], i + 1)
    else
      let r := mkS l p q d (i + 1)
      let s := mkS l p q d r.2
      if k < 6 then (.mk 2 0 [r.1], r.2) else if k < 8 then (.mk 3 0 [r.1, s.1], s.2) else (.mk 4 0 [r.1, s.1], s.2)) := rfl
/-- What is asked of what stands behind a maker's call. -/
def MadeK (l : List Nat) (a x d : Nat) (m : Sto) (r : L × Nat) (K : CR → Sto → Nat → Prop) : Prop :=
  ∀ cs m' x', cs.length = 3 → m' a = some (.cells [sV cU l, .i .i64 (r.2 : Nat)] false) → (∀ j, j < x → j ≠ a → m' j = m j) → x ≤ x' → FzAt m' x x' d cs (cL r.1) → K (.ret (.ag cs)) m' x'

set_option maxHeartbeats 4000000 in
theorem made_w (l : List Nat) (hb : Byt l) (p q : Nat) (hp : p ≤ 256) (hq : q ≤ 256) (a : Nat) : ∀ (d : Nat), d ≤ 10 → ∀ (i : Nat) {m : Sto} {x : Nat} {K : CR → Sto → Nat → Prop}, i + 4 ^ (d + 2) ≤ 1000000000 → a < x → m a = some (.cells [sV cU l, .i .i64 i] false) →
    MadeK l a x (d + 2) m (mkS l p q (d + 1) i) K →
    wpCall ctx (.fn (.func law02_Maker_Level.n) [] []) [.p a 0, .i .i64 p, .i .i64 q, .i .i64 ((d : Int) + 1)] m x K := by
  intro d
  induction d using Nat.strongRecOn with
  | ind d ih =>
  intro hd i m x K hi hax hm hK
  have h4 : 16 ≤ 4 ^ (d + 2) := by
    calc 16 = 4 ^ 2 := rfl
      _ ≤ 4 ^ (d + 2) := Nat.pow_le_pow_right (by omega) (by omega)
  refine open_w law02_Maker_Level.f rfl (.inl rfl) ?_
  simp +contextual (disch := omega) [Nat.add_assoc, Int.add_assoc, if_pos, if_neg, -Int.not_lt, -Int.not_le, -Nat.not_lt, -Nat.not_le, -List.length_flatMap, law02_Maker_Level.c]
  refine pick_w (l := l) (i := i) (n := 10) (by simp +contextual (disch := omega) [Nat.add_assoc, Int.add_assoc, if_pos, if_neg, -Int.not_lt, -Int.not_le, -Nat.not_lt, -Nat.not_le, -List.length_flatMap, hm]) hb (by omega) (by omega) ?_
  intro x1 hx1
  have hk := pickS_lt l i 10 (by omega)
  rw [mkS_eq] at hK
  generalize pickS l i 10 = k at hk hK
  have hk4 : ((k : Int)).tmod 4 = ((k % 4 : Nat) : Int) := by rw [Int.tmod_eq_emod_of_nonneg (by omega)]; omega
  generalize hkk : (if d = 0 then k % 4 else k) = kk at hK
  simp only at hK
  have hkc : (d = 0 ∧ (k : Int).tmod 4 = kk ∧ kk < 4) ∨ (0 < d ∧ (k : Int) = kk ∧ kk < 10) := by
    rcases Nat.eq_zero_or_pos d with h0 | h0
    · rw [if_pos h0] at hkk
      exact .inl ⟨h0, by rw [hk4, hkk], by omega⟩
    · rw [if_neg (by omega)] at hkk
      exact .inr ⟨h0, by omega, by omega⟩
  clear hk4 hkk
  have leaf : ∀ (m' : Sto) (x' : Nat) (u v : Int), FzAt m' x x' (d + 2) [.i .i64 u, .i .i64 v, .ns] (cL (.mk u v [])) := fun m' x' u v m2 _ dd _ => ⟨[], by simp⟩
  by_cases hA : (kk = 1 ∧ 0 < p) ∨ (kk = 2 ∧ 0 < p ∧ q = 0)
  · rw [if_pos hA] at hK
    have fin : ∀ (m' : Sto) (x' : Nat), x < x' → m' x = some (.cells [.i .i64 5, .i .i64 (pickS l (i + 1) p : Nat), .ns] false) → m' a = some (.cells [sV cU l, .i .i64 ((i + 2 : Nat) : Int)] false) → (∀ j, j < x → j ≠ a → m' j = m j) → K (.ret (.ag [.i .i64 5, .i .i64 (pickS l (i + 1) p : Nat), .ns])) m' x' :=
      fun m' x' h1 h2 h3 h4 => hK _ m' x' rfl h3 h4 (by omega) (leaf _ _ _ _)
    rcases hA with ⟨hA1, hA2⟩ | ⟨hA1, hA2, hA3⟩ <;> rcases hkc with ⟨h0, hk4, h5⟩ | ⟨h0, hk4, h5⟩
    all_goals (simp +contextual (disch := omega) [Nat.add_assoc, Int.add_assoc, if_pos, if_neg, -Int.not_lt, -Int.not_le, -Nat.not_lt, -Nat.not_le, -List.length_flatMap, hm, hk4])
    all_goals refine pick_w (l := l) (i := i + 1) (n := p) (by simp +contextual (disch := omega) [Nat.add_assoc, Int.add_assoc, if_pos, if_neg, -Int.not_lt, -Int.not_le, -Nat.not_lt, -Nat.not_le, -List.length_flatMap]) hb (by omega) (by omega) ?_
    all_goals intro x2 hx2
    all_goals (simp +contextual (disch := omega) [Nat.add_assoc, Int.add_assoc, if_pos, if_neg, -Int.not_lt, -Int.not_le, -Nat.not_lt, -Nat.not_le, -List.length_flatMap])
    all_goals refine fin _ _ (by omega) (by simp +contextual (disch := omega) [Nat.add_assoc, Int.add_assoc, if_pos, if_neg, -Int.not_lt, -Int.not_le, -Nat.not_lt, -Nat.not_le, -List.length_flatMap]) (by simp +contextual (disch := omega) [Nat.add_assoc, Int.add_assoc, if_pos, if_neg, -Int.not_lt, -Int.not_le, -Nat.not_lt, -Nat.not_le, -List.length_flatMap]) (by simp +contextual (disch := omega) [Nat.add_assoc, Int.add_assoc, if_pos, if_neg, -Int.not_lt, -Int.not_le, -Nat.not_lt, -Nat.not_le, -List.length_flatMap])
  · rw [if_neg hA] at hK
    by_cases hB : (kk = 2 ∨ kk = 3) ∧ 0 < q
    · rw [if_pos hB] at hK
      have fin : ∀ (m' : Sto) (x' : Nat), x < x' → m' x = some (.cells [.i .i64 6, .i .i64 (pickS l (i + 1) q : Nat), .ns] false) → m' a = some (.cells [sV cU l, .i .i64 ((i + 2 : Nat) : Int)] false) → (∀ j, j < x → j ≠ a → m' j = m j) → K (.ret (.ag [.i .i64 6, .i .i64 (pickS l (i + 1) q : Nat), .ns])) m' x' :=
        fun m' x' h1 h2 h3 h4 => hK _ m' x' rfl h3 h4 (by omega) (leaf _ _ _ _)
      obtain ⟨hB1, hB2⟩ := hB
      rcases hB1 with hB1 | hB1 <;> rcases Nat.eq_zero_or_pos p with h6 | h6 <;> rcases hkc with ⟨h0, hk4, h5⟩ | ⟨h0, hk4, h5⟩
      all_goals (simp +contextual (disch := omega) [Nat.add_assoc, Int.add_assoc, if_pos, if_neg, -Int.not_lt, -Int.not_le, -Nat.not_lt, -Nat.not_le, -List.length_flatMap, hm, hk4])
      all_goals refine pick_w (l := l) (i := i + 1) (n := q) (by simp +contextual (disch := omega) [Nat.add_assoc, Int.add_assoc, if_pos, if_neg, -Int.not_lt, -Int.not_le, -Nat.not_lt, -Nat.not_le, -List.length_flatMap]) hb (by omega) (by omega) ?_
      all_goals intro x2 hx2
      all_goals (simp +contextual (disch := omega) [Nat.add_assoc, Int.add_assoc, if_pos, if_neg, -Int.not_lt, -Int.not_le, -Nat.not_lt, -Nat.not_le, -List.length_flatMap])
      all_goals refine fin _ _ (by omega) (by simp +contextual (disch := omega) [Nat.add_assoc, Int.add_assoc, if_pos, if_neg, -Int.not_lt, -Int.not_le, -Nat.not_lt, -Nat.not_le, -List.length_flatMap]) (by simp +contextual (disch := omega) [Nat.add_assoc, Int.add_assoc, if_pos, if_neg, -Int.not_lt, -Int.not_le, -Nat.not_lt, -Nat.not_le, -List.length_flatMap]) (by simp +contextual (disch := omega) [Nat.add_assoc, Int.add_assoc, if_pos, if_neg, -Int.not_lt, -Int.not_le, -Nat.not_lt, -Nat.not_le, -List.length_flatMap])
    · rw [if_neg hB] at hK
      by_cases hC : kk < 4
      · rw [if_pos hC] at hK
        have fin : ∀ (m' : Sto) (x' : Nat), x < x' → m' a = some (.cells [sV cU l, .i .i64 ((i + 1 : Nat) : Int)] false) → (∀ j, j < x → j ≠ a → m' j = m j) → K (.ret (.ag [.i .i64 1, .i .i64 0, .ns])) m' x' :=
          fun m' x' h1 h3 h4 => hK _ m' x' rfl h3 h4 (by omega) (leaf _ _ _ _)
        rcases (by omega : kk = 0 ∨ kk = 1 ∨ kk = 2 ∨ kk = 3) with hC1 | hC1 | hC1 | hC1 <;> rcases hkc with ⟨h0, hk4, h5⟩ | ⟨h0, hk4, h5⟩
        all_goals (simp +contextual (disch := omega) [Nat.add_assoc, Int.add_assoc, if_pos, if_neg, -Int.not_lt, -Int.not_le, -Nat.not_lt, -Nat.not_le, -List.length_flatMap, hm, hk4])
        all_goals refine fin _ _ (by omega) (by simp +contextual (disch := omega) [Nat.add_assoc, Int.add_assoc, if_pos, if_neg, -Int.not_lt, -Int.not_le, -Nat.not_lt, -Nat.not_le, -List.length_flatMap]) (by simp +contextual (disch := omega) [Nat.add_assoc, Int.add_assoc, if_pos, if_neg, -Int.not_lt, -Int.not_le, -Nat.not_lt, -Nat.not_le, -List.length_flatMap])
      · rw [if_neg hC] at hK
        rcases hkc with ⟨h0, hk4, h5⟩ | ⟨h0, hk4, h5⟩
        · omega
        obtain ⟨d, rfl⟩ : ∃ e, d = e + 1 := ⟨d - 1, by omega⟩
        have h44 : 4 ^ (d + 1 + 2) = 4 * 4 ^ (d + 2) := by rw [Nat.pow_succ, Nat.mul_comm]
        have hdd : (d : Int) + 2 - 1 = d + 1 := by omega
        by_cases hD : kk < 6
        · rw [if_pos hD] at hK
          simp +contextual (disch := omega) [Nat.add_assoc, Int.add_assoc, if_pos, if_neg, -Int.not_lt, -Int.not_le, -Nat.not_lt, -Nat.not_le, -List.length_flatMap, hm, hk4, hdd]
          refine ih d (by omega) (by omega) (i + 1) (by omega) (by omega) (by simp +contextual (disch := omega) [Nat.add_assoc, Int.add_assoc, if_pos, if_neg, -Int.not_lt, -Int.not_le, -Nat.not_lt, -Nat.not_le, -List.length_flatMap]) ?_
          intro cs m1 x2 q1 q2 q3 q4 q5
          have ht : cs.take 3 = cs := List.take_of_length_le (by omega)
          have q3x := q3 x (by omega) (by omega)
          simp (disch := omega) at q3x
          generalize mkS l p q (d + 1) (i + 1) = r1 at hK q2 q5
          simp +contextual (disch := omega) [Nat.add_assoc, Int.add_assoc, if_pos, if_neg, -Int.not_lt, -Int.not_le, -Nat.not_lt, -Nat.not_le, -List.length_flatMap, q1, q3x, ht]
          refine hK _ _ _ rfl (by simp +contextual (disch := omega) [Nat.add_assoc, Int.add_assoc, if_pos, if_neg, -Int.not_lt, -Int.not_le, -Nat.not_lt, -Nat.not_le, -List.length_flatMap, q2]) (fun j h1 h2 => ?_) (by omega) ?_
          · have e2 := q3 j (by omega) h2
            simp +contextual (disch := omega) [Nat.add_assoc, Int.add_assoc, if_pos, if_neg, -Int.not_lt, -Int.not_le, -Nat.not_lt, -Nat.not_le, -List.length_flatMap, e2]
          · have z2 := (q5.low (lo' := x + 1) (by omega)).ms (esz := 3) (n := 1) (m' := (m1.set x2 (some (.cells cs false))).set x (some (.cells [.i .i64 2, .i .i64 0, .ms x2 0 1 3] false))) (x' := x2 + 3) (a := x2) (ro := false) (cs := cs) (by simp +contextual (disch := omega) [Nat.add_assoc, Int.add_assoc, if_pos, if_neg, -Int.not_lt, -Int.not_le, -Nat.not_lt, -Nat.not_le, -List.length_flatMap]) (by simp +contextual (disch := omega) [Nat.add_assoc, Int.add_assoc, if_pos, if_neg, -Int.not_lt, -Int.not_le, -Nat.not_lt, -Nat.not_le, -List.length_flatMap]) (by omega) (by omega) (by omega) (by simp)
            have z3 := (FzAt.fr (m := _) (lo := x + 1) (x := x2 + 3) (k := d + 1 + 2) (cs := [.i .i64 2, .i .i64 0]) (by simp)).app z2
            rw [cL_at]
            simpa [sV] using z3.low (lo' := x) (by omega)
        · rw [if_neg hD] at hK
          by_cases hE : kk < 8
          · rw [if_pos hE] at hK
            simp +contextual (disch := omega) [Nat.add_assoc, Int.add_assoc, if_pos, if_neg, -Int.not_lt, -Int.not_le, -Nat.not_lt, -Nat.not_le, -List.length_flatMap, hm, hk4, hdd]
            refine ih d (by omega) (by omega) (i + 1) (by omega) (by omega) (by simp +contextual (disch := omega) [Nat.add_assoc, Int.add_assoc, if_pos, if_neg, -Int.not_lt, -Int.not_le, -Nat.not_lt, -Nat.not_le, -List.length_flatMap]) ?_
            intro cs m1 x2 q1 q2 q3 q4 q5
            have ht : cs.take 3 = cs := List.take_of_length_le (by omega)
            simp +contextual (disch := omega) [Nat.add_assoc, Int.add_assoc, if_pos, if_neg, -Int.not_lt, -Int.not_le, -Nat.not_lt, -Nat.not_le, -List.length_flatMap, q1, hdd]
            have hb1 := mkS_bd l p q (d + 1) (i + 1)
            have hb2 : 4 ^ (d + 1 + 1) = 4 ^ (d + 2) := rfl
            have hdr : (cs ++ [V.i .i64 0, .i .i64 0, .ns]).drop 6 = [] := List.drop_of_length_le (by simp; omega)
            generalize mkS l p q (d + 1) (i + 1) = r1 at hK q2 q5 hb1
            refine ih d (by omega) (by omega) r1.2 (by omega) (by omega) q2 ?_
            intro cs2 m2 x3 p1 p2 p3 p4 p5
            have ht2 : cs2.take 3 = cs2 := List.take_of_length_le (by omega)
            have e1 := (p3 x (by omega) (by omega)).trans (q3 x (by omega) (by omega))
            simp (disch := omega) at e1
            generalize mkS l p q (d + 1) r1.2 = r2 at hK p2 p5
            simp +contextual (disch := omega) [Nat.add_assoc, Int.add_assoc, if_pos, if_neg, -Int.not_lt, -Int.not_le, -Nat.not_lt, -Nat.not_le, -List.length_flatMap, q1, p1, ht, ht2, e1, hdr]
            refine hK _ _ _ rfl (by simp +contextual (disch := omega) [Nat.add_assoc, Int.add_assoc, if_pos, if_neg, -Int.not_lt, -Int.not_le, -Nat.not_lt, -Nat.not_le, -List.length_flatMap, p2]) (fun j h1 h2 => ?_) (by omega) ?_
            · have e2 := (p3 j (by omega) h2).trans (q3 j (by omega) h2)
              simp +contextual (disch := omega) [Nat.add_assoc, Int.add_assoc, if_pos, if_neg, -Int.not_lt, -Int.not_le, -Nat.not_lt, -Nat.not_le, -List.length_flatMap, e2]
            · have z := (q5.low (lo' := x + 1) (by omega)).up (x' := x3) (m' := m2) (by omega) (Nat.le_refl _) (fun j h1 h2 => p3 j (by omega) (by omega))
              have z2 := (z.app (p5.low (by omega))).ms (esz := 3) (n := 2) (m' := (m2.set x3 (some (.cells (cs ++ cs2) false))).set x (some (.cells [.i .i64 3, .i .i64 0, .ms x3 0 2 3] false))) (x' := x3 + 3) (a := x3) (ro := false) (cs := cs ++ cs2) (by simp +contextual (disch := omega) [Nat.add_assoc, Int.add_assoc, if_pos, if_neg, -Int.not_lt, -Int.not_le, -Nat.not_lt, -Nat.not_le, -List.length_flatMap]) (by simp +contextual (disch := omega) [Nat.add_assoc, Int.add_assoc, if_pos, if_neg, -Int.not_lt, -Int.not_le, -Nat.not_lt, -Nat.not_le, -List.length_flatMap]) (by omega) (by omega) (by omega) (by simp)
              have z3 := (FzAt.fr (m := _) (lo := x + 1) (x := x3 + 3) (k := d + 1 + 2) (cs := [.i .i64 3, .i .i64 0]) (by simp)).app z2
              rw [cL_at]
              simpa [sV] using z3.low (lo' := x) (by omega)
          · rw [if_neg hE] at hK
            simp +contextual (disch := omega) [Nat.add_assoc, Int.add_assoc, if_pos, if_neg, -Int.not_lt, -Int.not_le, -Nat.not_lt, -Nat.not_le, -List.length_flatMap, hm, hk4, hdd]
            refine ih d (by omega) (by omega) (i + 1) (by omega) (by omega) (by simp +contextual (disch := omega) [Nat.add_assoc, Int.add_assoc, if_pos, if_neg, -Int.not_lt, -Int.not_le, -Nat.not_lt, -Nat.not_le, -List.length_flatMap]) ?_
            intro cs m1 x2 q1 q2 q3 q4 q5
            have ht : cs.take 3 = cs := List.take_of_length_le (by omega)
            simp +contextual (disch := omega) [Nat.add_assoc, Int.add_assoc, if_pos, if_neg, -Int.not_lt, -Int.not_le, -Nat.not_lt, -Nat.not_le, -List.length_flatMap, q1, hdd]
            have hb1 := mkS_bd l p q (d + 1) (i + 1)
            have hb2 : 4 ^ (d + 1 + 1) = 4 ^ (d + 2) := rfl
            have hdr : (cs ++ [V.i .i64 0, .i .i64 0, .ns]).drop 6 = [] := List.drop_of_length_le (by simp; omega)
            generalize mkS l p q (d + 1) (i + 1) = r1 at hK q2 q5 hb1
            refine ih d (by omega) (by omega) r1.2 (by omega) (by omega) q2 ?_
            intro cs2 m2 x3 p1 p2 p3 p4 p5
            have ht2 : cs2.take 3 = cs2 := List.take_of_length_le (by omega)
            have e1 := (p3 x (by omega) (by omega)).trans (q3 x (by omega) (by omega))
            simp (disch := omega) at e1
            generalize mkS l p q (d + 1) r1.2 = r2 at hK p2 p5
            simp +contextual (disch := omega) [Nat.add_assoc, Int.add_assoc, if_pos, if_neg, -Int.not_lt, -Int.not_le, -Nat.not_lt, -Nat.not_le, -List.length_flatMap, q1, p1, ht, ht2, e1, hdr]
            refine hK _ _ _ rfl (by simp +contextual (disch := omega) [Nat.add_assoc, Int.add_assoc, if_pos, if_neg, -Int.not_lt, -Int.not_le, -Nat.not_lt, -Nat.not_le, -List.length_flatMap, p2]) (fun j h1 h2 => ?_) (by omega) ?_
            · have e2 := (p3 j (by omega) h2).trans (q3 j (by omega) h2)
              simp +contextual (disch := omega) [Nat.add_assoc, Int.add_assoc, if_pos, if_neg, -Int.not_lt, -Int.not_le, -Nat.not_lt, -Nat.not_le, -List.length_flatMap, e2]
            · have z := (q5.low (lo' := x + 1) (by omega)).up (x' := x3) (m' := m2) (by omega) (Nat.le_refl _) (fun j h1 h2 => p3 j (by omega) (by omega))
              have z2 := (z.app (p5.low (by omega))).ms (esz := 3) (n := 2) (m' := (m2.set x3 (some (.cells (cs ++ cs2) false))).set x (some (.cells [.i .i64 4, .i .i64 0, .ms x3 0 2 3] false))) (x' := x3 + 3) (a := x3) (ro := false) (cs := cs ++ cs2) (by simp +contextual (disch := omega) [Nat.add_assoc, Int.add_assoc, if_pos, if_neg, -Int.not_lt, -Int.not_le, -Nat.not_lt, -Nat.not_le, -List.length_flatMap]) (by simp +contextual (disch := omega) [Nat.add_assoc, Int.add_assoc, if_pos, if_neg, -Int.not_lt, -Int.not_le, -Nat.not_lt, -Nat.not_le, -List.length_flatMap]) (by omega) (by omega) (by omega) (by simp)
              have z3 := (FzAt.fr (m := _) (lo := x + 1) (x := x3 + 3) (k := d + 1 + 2) (cs := [.i .i64 4, .i .i64 0]) (by simp)).app z2
              rw [cL_at]
              simpa [sV] using z3.low (lo' := x) (by omega)
end Pi


set_option linter.unusedSimpArgs false
set_option linter.unusedVariables false
namespace Pi
theorem zeros_cI (n : Nat) : zeros [V.i .i64 0] n = (List.replicate n (0 : Int)).flatMap cI := by
  induction n with
  | zero => rfl
  | succ n ih => simp [zeros, ih, List.replicate_succ]
theorem mkS_ok (l : List Nat) (p q : Nat) (hp : p ≤ 256) (hq : q ≤ 256) (d : Nat) : ∀ i, (mkS l p q d i).1.Ok := by
  have lf : ∀ (k : Int) (n : Nat), 0 ≤ k ∧ k ≤ 10 → n ≤ 256 → (L.mk k n []).Ok := fun k n h1 h2 => .mk (by simp) (by omega) (by omega) (by simp)
  have pk : ∀ i n, n ≤ 256 → pickS l i n ≤ 256 ∨ n = 0 := fun i n hn => by
    rcases Nat.eq_zero_or_pos n with h | h
    · exact .inr h
    · have := pickS_lt l i n h; omega
  induction d with
  | zero =>
    intro i
    simp only [mkS]
    split
    · rename_i h; rcases pk (i + 1) p hp with h1 | h1
      · exact lf _ _ (by omega) h1
      · omega
    · split
      · rename_i h; rcases pk (i + 1) q hq with h1 | h1
        · exact lf _ _ (by omega) h1
        · omega
      · exact lf 1 0 (by omega) (by omega)
  | succ d ih =>
    intro i
    rw [mkS_eq]
    simp only
    generalize (if d = 0 then pickS l i 10 % 4 else pickS l i 10) = k
    split
    · rename_i h; rcases pk (i + 1) p hp with h1 | h1
      · exact lf _ _ (by omega) h1
      · omega
    · split
      · rename_i h; rcases pk (i + 1) q hq with h1 | h1
        · exact lf _ _ (by omega) h1
        · omega
      · split
        · exact lf 1 0 (by omega) (by omega)
        · split
          · exact .mk (by simp) (by simp) (by simp) (by simpa using ih _)
          · split
            · exact .mk (by simp) (by simp) (by simp) (by simpa using ⟨ih _, ih _⟩)
            · exact .mk (by simp) (by simp) (by simp) (by simpa using ⟨ih _, ih _⟩)
end Pi


set_option linter.unusedSimpArgs false
set_option linter.unusedVariables false
namespace Pi
end Pi


set_option linter.unusedSimpArgs false
set_option linter.unusedVariables false
namespace Pi
/-! Made levels are right; what is more. -/
end Pi


set_option linter.unusedSimpArgs false
set_option linter.unusedVariables false
namespace Pi
end Pi


set_option linter.unusedSimpArgs false
set_option linter.unusedVariables false
namespace Pi
end Pi


set_option linter.unusedSimpArgs false
set_option linter.unusedVariables false
namespace Pi
end Pi


set_option linter.unusedSimpArgs false
set_option linter.unusedVariables false
namespace Pi
end Pi


set_option linter.unusedSimpArgs false
set_option linter.unusedVariables false
namespace Pi
end Pi


set_option linter.unusedSimpArgs false
set_option linter.unusedVariables false
namespace Pi
/-- The k-th case of so many parameters. -/
def caseP (k n : Nat) : List Bool := (List.range n).map fun i => decide (k / 2 ^ i % 2 = 1)
theorem caseP_len (k n : Nat) : (caseP k n).length = n := by simp [caseP]
theorem caseP_at (k n i : Nat) (hi : i < n) : (caseP k n)[i]? = some (decide (k / 2 ^ i % 2 = 1)) := by simp [caseP, hi]
theorem shr_nat {k i : Nat} (hi : i ≤ 64) : bin .shr (.i .u64 (k : Nat)) (.i .i64 (i : Nat)) = some (.i .u64 ((k / 2 ^ i : Nat) : Int)) := by
  have e : min ((i : Int)).toNat (Go.IntKind.u64.bits) = i := by simp [Go.IntKind.bits]; omega
  have h : ¬ ((i : Int) < 0) := by omega
  simp only [bin, h, if_false, e]
  congr 2
  rw [Int.fdiv_eq_ediv_of_nonneg _ (Int.le_of_lt (Int.pow_pos (by omega)))]
  norm_cast
theorem and1u {a : Nat} (ha : a < 1000) : bin .and (.i .u64 (a : Nat)) (.i .u64 1) = some (.i .u64 ((a % 2 : Nat) : Int)) := by
  simp only [bin, binI, if_true]
  congr 2
  have h1 : (BitVec.ofInt 64 a &&& BitVec.ofInt 64 1).toNat = a % 2 := by
    rw [BitVec.toNat_and]
    have e2 : (BitVec.ofInt 64 1).toNat = 2 ^ 1 - 1 := by decide
    rw [e2, Nat.and_two_pow_sub_one_eq_mod, BitVec.toNat_ofInt]
    have : (2 : Nat) ^ 64 = 18446744073709551616 := by decide
    omega
  have e3 : Go.IntKind.u64.bits = 64 := rfl
  rw [e3, h1]
  simp [Go.IntKind.wrap, Go.IntKind.signed, Go.IntKind.bits]
  omega
theorem shl1 {n : Nat} (hn : n ≤ 5) : bin .shl (.i .u64 1) (.i .i64 (n : Nat)) = some (.i .u64 ((2 ^ n : Nat) : Int)) ∧ bin .shl (.i .i64 1) (.i .i64 (n : Nat)) = some (.i .i64 ((2 ^ n : Nat) : Int)) := by
  have : n = 0 ∨ n = 1 ∨ n = 2 ∨ n = 3 ∨ n = 4 ∨ n = 5 := by omega
  rcases this with rfl | rfl | rfl | rfl | rfl | rfl <;> exact ⟨rfl, rfl⟩
theorem pow32 {n : Nat} (hn : n ≤ 5) : 2 ^ n ≤ 32 := by
  have : n = 0 ∨ n = 1 ∨ n = 2 ∨ n = 3 ∨ n = 4 ∨ n = 5 := by omega
  rcases this with rfl | rfl | rfl | rfl | rfl | rfl <;> decide
theorem ref07_Case.a (k n : Nat) (hk : k < 1000) (hn : n ≤ 5) : Ans ctx ref07_Case.n [.i .i64 k, .i .i64 n] (sV cB (caseP k n)) := by
  refine ans ref07_Case.f ?_
  simp +contextual (disch := omega) [Nat.add_assoc, Int.add_assoc, if_pos, if_neg, -Int.not_lt, -Int.not_le, -Nat.not_lt, -Nat.not_le, -List.length_flatMap, ref07_Case.c]
  refine for_w (fun i e m x => e 0 = .i .i64 (k / 2 ^ i : Nat) ∧ e 1 = .i .i64 n ∧ e 6 = .i .i64 i ∧ Bf m (e 5) cB 1 ((caseP k n).take i) 0 x) n ?_ ?_ ?_
  · simp +contextual (disch := omega) [Nat.add_assoc, Int.add_assoc, if_pos, if_neg, -Int.not_lt, -Int.not_le, -Nat.not_lt, -Nat.not_le, -List.length_flatMap]
    exact Bf.nil
  · rintro i e m x hi ⟨g0, g1, g6, g5⟩
    generalize hB : e 5 = B at g5
    have hle : k / 2 ^ i ≤ k := Nat.div_le_self _ _
    have hs : (caseP k n).take (i + 1) = (caseP k n).take i ++ [decide (k / 2 ^ i % 2 = 1)] := by
      rw [List.take_add_one, caseP_at k n i hi]; rfl
    have hd : k / 2 ^ (i + 1) = k / 2 ^ i / 2 := by rw [Nat.pow_succ, Nat.div_div_eq_div_mul]
    have hln : ((caseP k n).take i).length ≤ 5 := by rw [List.length_take]; omega
    rw [hd, hs]
    generalize k / 2 ^ i = q at *
    have hdq : decide ((q : Int) % 2 = 1) = decide (q % 2 = 1) := by rw [decide_eq_decide]; omega
    simp +contextual (disch := omega) [Nat.add_assoc, Int.add_assoc, if_pos, if_neg, -Int.not_lt, -Int.not_le, -Nat.not_lt, -Nat.not_le, -List.length_flatMap, ref07_Case.b1, g0, g1, g6, hB, hi, Int.tmod_eq_emod_of_nonneg, Int.tdiv_eq_ediv_of_nonneg, hdq, -apV_ns]
    refine g5.ap [decide (q % 2 = 1)] (fun j h1 h2 => by simp +contextual (disch := omega) [Nat.add_assoc, Int.add_assoc, if_pos, if_neg, -Int.not_lt, -Int.not_le, -Nat.not_lt, -Nat.not_le, -List.length_flatMap]) (by omega) (by omega) rfl rfl (by simp; omega) ?_
    intro B' ws m2 z0 z1 z2 z3
    simp +contextual (disch := omega) [Nat.add_assoc, Int.add_assoc, if_pos, if_neg, -Int.not_lt, -Int.not_le, -Nat.not_lt, -Nat.not_le, -List.length_flatMap, z0, g0, g1, g6, z1.stor, z1.cells, Int.tdiv_eq_ediv_of_nonneg]
    exact z1.to rfl (by omega)
  · rintro e m x ⟨g0, g1, g6, g5⟩
    rw [List.take_of_length_le (by rw [caseP_len]; exact Nat.le_refl _)] at g5
    have hz := g5.fz24
    generalize hB : e 5 = B at g5 hz
    simp +contextual (disch := omega) [Nat.add_assoc, Int.add_assoc, if_pos, if_neg, -Int.not_lt, -Int.not_le, -Nat.not_lt, -Nat.not_le, -List.length_flatMap, ref07_Case.b1, g0, g1, g6, hB, hz]
theorem set_rep (k n i : Nat) (hi : i < n) : ((caseP k n).take i ++ List.replicate (n - i) false).set i (decide (k / 2 ^ i % 2 = 1)) = (caseP k n).take (i + 1) ++ List.replicate (n - (i + 1)) false := by
  have hl : ((caseP k n).take i).length = i := by rw [List.length_take, caseP_len]; omega
  obtain ⟨d, hd⟩ : ∃ d, n - i = d + 1 := ⟨n - i - 1, by omega⟩
  rw [List.set_append_right _ _ (by omega), hl, Nat.sub_self, hd, List.replicate_succ, List.set_cons_zero, List.take_add_one, caseP_at k n i hi, List.append_assoc, (by omega : n - (i + 1) = d)]
  rfl
theorem flatB_map (l : List Bool) : l.flatMap cB = l.map V.b := by induction l <;> simp_all [cB]
theorem flatB_len (l : List Bool) : (l.flatMap cB).length = l.length := by rw [flatB_map, List.length_map]
theorem flatB_set {l : List Bool} {j : Nat} {v : Bool} (h : j < l.length) : (l.flatMap cB).take j ++ V.b v :: (l.flatMap cB).drop (j + 1) = (l.set j v).flatMap cB := by
  rw [flatB_map, flatB_map, take_set (by rw [List.length_map]; exact h), List.map_set]
theorem zerosB (n : Nat) : zeros [V.b false] n = (List.replicate n false).flatMap cB := by
  induction n with
  | zero => rfl
  | succ n ih => rw [List.replicate_succ, List.flatMap_cons, zeros, ih]; rfl
/-- A case in memory. -/
def Zm (m : Sto) (B : V) (l : List Bool) (lo x : Nat) : Prop := (B = .ns ∧ l = []) ∨ ∃ b, B = .ms b 0 l.length 1 ∧ m b = some (.cells (l.flatMap cB) false) ∧ lo ≤ b ∧ b < x
theorem Zm.bf {m : Sto} {B : V} {l : List Bool} {lo x : Nat} (h : Zm m B l lo x) : Bf m B cB 1 l lo x := by
  rcases h with ⟨rfl, rfl⟩ | ⟨a, rfl, h1, h2, h3⟩
  · exact Bf.nil
  · exact .mem h1 rfl rfl h2 h3
set_option maxHeartbeats 1000000 in
theorem leq_All_1.w {n : Nat} (hn : n ≤ 5) {a ll x0 : Nat} {m : Sto} {K : CR → Sto → Nat → Prop} (I : Nat → Sto → Nat → Prop) (E : Sto → Nat → Prop)
    (hI : ∀ k m x, I k m x → m a = some (.cells [.i .i64 n] false)) (fr : ∀ k m x m' x', x0 ≤ x → I k m x → x ≤ x' → (∀ j, j < x → m' j = m j) → I k m' x') (h0 : I 0 m x0) (frE : ∀ m x x', E m x → x ≤ x' → E m x')
    (hs : ∀ (k : Nat), k < 2 ^ n → ∀ m y x B K', x0 ≤ y → y ≤ x → I k m y → Zm m B (caseP k n) y x → (∀ m' x', x ≤ x' → I (k + 1) m' x' → K' (.ret (.b true)) m' x') → (∀ m' x', x ≤ x' → E m' x' → K' (.ret (.b false)) m' x') →
      wpCall ctx (.fn (.yield ll) [] []) [B] m x K')
    (hd : ∀ m' x', x0 ≤ x' → I (2 ^ n) m' x' → K (.ret (.tu [])) m' x') (he : ∀ m' x', x0 ≤ x' → E m' x' → K (.ret (.tu [])) m' x') :
    wpCall ctx (.fn (.func leq_All_1.n) [] [.p a 0]) [.fn (.yield ll) [] []] m x0 K := by
  refine openg_w leq_All_1.f rfl (.inr (by simp +contextual (disch := omega) [Nat.add_assoc, Int.add_assoc, if_pos, if_neg, -Int.not_lt, -Int.not_le, -Nat.not_lt, -Nat.not_le, -List.length_flatMap])) ?_
  have ha := hI _ _ _ h0
  have hsh := (shl1 hn).1
  have h32 := pow32 hn
  obtain ⟨N, hN⟩ : ∃ N : Nat, N = 2 ^ n := ⟨_, rfl⟩
  rw [← hN] at hsh hs hd h32
  simp +contextual (disch := omega) [Nat.add_assoc, Int.add_assoc, if_pos, if_neg, -Int.not_lt, -Int.not_le, -Nat.not_lt, -Nat.not_le, -List.length_flatMap, leq_All_1.c, ha, hsh]
  refine for_w (fun k e m x => e 0 = .fn (.yield ll) [] [] ∧ e 1 = .p a 0 ∧ e 7 = .i .u64 N ∧ e 8 = .i .u64 k ∧ x0 ≤ x ∧ I k m x) N ?_ ?_ ?_
  · simp +contextual (disch := omega) [Nat.add_assoc, Int.add_assoc, if_pos, if_neg, -Int.not_lt, -Int.not_le, -Nat.not_lt, -Nat.not_le, -List.length_flatMap]
    exact fr _ _ _ _ _ (Nat.le_refl _) h0 (by omega) (fun _ _ => rfl)
  · rintro k e m x hk ⟨g0, g1, g7, g8, gx, gI⟩
    have ha := hI _ _ _ gI
    by_cases hn0 : n = 0
    · subst hn0
      simp +contextual (disch := omega) [Nat.add_assoc, Int.add_assoc, if_pos, if_neg, -Int.not_lt, -Int.not_le, -Nat.not_lt, -Nat.not_le, -List.length_flatMap, leq_All_1.b2, g0, g1, g7, g8, ha, hk]
      refine un_w ?_
      simp +contextual (disch := omega) [Nat.add_assoc, Int.add_assoc, if_pos, if_neg, -Int.not_lt, -Int.not_le, -Nat.not_lt, -Nat.not_le, -List.length_flatMap, leq_All_1.b1, g0]
      refine hs k hk _ x _ .ns _ gx (by omega) gI (.inl ⟨rfl, rfl⟩) ?_ ?_
      · intro m' x' p1 p2
        simp +contextual (disch := omega) [Nat.add_assoc, Int.add_assoc, if_pos, if_neg, -Int.not_lt, -Int.not_le, -Nat.not_lt, -Nat.not_le, -List.length_flatMap, g0, g1, g7, g8]
        exact ⟨by omega, fr _ _ _ _ _ (by omega) p2 (by omega) (fun _ _ => rfl)⟩
      · intro m' x' p1 p2
        simp +contextual (disch := omega) [Nat.add_assoc, Int.add_assoc, if_pos, if_neg, -Int.not_lt, -Int.not_le, -Nat.not_lt, -Nat.not_le, -List.length_flatMap]
        exact he _ _ (by omega) (frE _ _ _ p2 (by omega))
    · simp +contextual (disch := omega) [Nat.add_assoc, Int.add_assoc, if_pos, if_neg, -Int.not_lt, -Int.not_le, -Nat.not_lt, -Nat.not_le, -List.length_flatMap, leq_All_1.b2, g0, g1, g7, g8, ha, hk, hn0]
      refine for_w (fun i e m' x' => e 0 = .fn (.yield ll) [] [] ∧ e 1 = .p a 0 ∧ e 3 = .i .u64 k ∧ e 4 = .ms (x + 4) 0 n 1 ∧ e 7 = .i .u64 N ∧ e 8 = .i .u64 k ∧ e 14 = .i .i64 n ∧ e 15 = .i .i64 i ∧ x + 5 ≤ x' ∧ m' (x + 4) = some (.cells (((caseP k n).take i ++ List.replicate (n - i) false).flatMap cB) false) ∧ (∀ j, j < x → m' j = m j)) n ?_ ?_ ?_
      · have hzb := zerosB n
        simp +contextual (disch := omega) [Nat.add_assoc, Int.add_assoc, if_pos, if_neg, -Int.not_lt, -Int.not_le, -Nat.not_lt, -Nat.not_le, -List.length_flatMap, g0, g1, g7, g8, hzb]
      · rintro i e m' x' hi ⟨q0, q1, q3, q4, q7, q8, q14, q15, qx, ym, yj⟩
        have hsr := set_rep k n i hi
        have hln : ((caseP k n).take i ++ List.replicate (n - i) false).length = n := by
          have := caseP_len k n
          simp [List.length_take]; omega
        have hln2 : (((caseP k n).take i ++ List.replicate (n - i) false).flatMap cB).length = n := by rw [flatB_len, hln]
        have hfs := flatB_set (l := (caseP k n).take i ++ List.replicate (n - i) false) (j := i) (v := decide (k / 2 ^ i % 2 = 1)) (by omega)
        rw [hsr] at hfs
        generalize ((caseP k n).take i ++ List.replicate (n - i) false).flatMap cB = Z at *
        have hsq := shr_nat (k := k) (i := i) (by omega)
        have hle : k / 2 ^ i ≤ k := Nat.div_le_self _ _
        generalize k / 2 ^ i = q at *
        have ha1 := and1u (a := q) (by omega)
        have hdq : decide (¬ ((q % 2 : Nat) : Int) = 0) = decide (q % 2 = 1) := by rw [decide_eq_decide]; omega
        simp +contextual (disch := omega) [Nat.add_assoc, Int.add_assoc, if_pos, if_neg, -Int.not_lt, -Int.not_le, -Nat.not_lt, -Nat.not_le, -List.length_flatMap, leq_All_1.b1, q0, q1, q3, q4, q7, q8, q14, q15, ym, hi, hln2, hsq, ha1]
        have e1 : (!decide ((q : Int) % 2 = 0)) = decide (q % 2 = 1) := by
          rw [← decide_not, decide_eq_decide]; omega
        rw [e1, hfs, List.flatMap_append]
        exact ⟨by omega, rfl, yj⟩
      · rintro e m' x' ⟨q0, q1, q3, q4, q7, q8, q14, q15, qx, ym, yj⟩
        rw [Nat.sub_self, List.replicate_zero, List.append_nil, List.take_of_length_le (by rw [caseP_len]; exact Nat.le_refl _)] at ym
        simp +contextual (disch := omega) [Nat.add_assoc, Int.add_assoc, if_pos, if_neg, -Int.not_lt, -Int.not_le, -Nat.not_lt, -Nat.not_le, -List.length_flatMap, leq_All_1.b1, q0, q1, q3, q4, q7, q8, q14, q15]
        refine hs k hk _ x _ (.ms (x + 4) 0 n 1) _ gx (by omega) (fr _ _ _ _ _ gx gI (Nat.le_refl _) yj) (.inr ⟨x + 4, by rw [caseP_len], ym, by omega, by omega⟩) ?_ ?_
        · intro m2 x2 p1 p2
          simp +contextual (disch := omega) [Nat.add_assoc, Int.add_assoc, if_pos, if_neg, -Int.not_lt, -Int.not_le, -Nat.not_lt, -Nat.not_le, -List.length_flatMap, q0, q1, q7, q8]
          exact ⟨by omega, fr _ _ _ _ _ (by omega) p2 (by omega) (fun _ _ => rfl)⟩
        · intro m2 x2 p1 p2
          simp +contextual (disch := omega) [Nat.add_assoc, Int.add_assoc, if_pos, if_neg, -Int.not_lt, -Int.not_le, -Nat.not_lt, -Nat.not_le, -List.length_flatMap]
          exact he _ _ (by omega) (frE _ _ _ p2 (by omega))
  · rintro e m x ⟨g0, g1, g7, g8, gx, gI⟩
    simp +contextual (disch := omega) [Nat.add_assoc, Int.add_assoc, if_pos, if_neg, -Int.not_lt, -Int.not_le, -Nat.not_lt, -Nat.not_le, -List.length_flatMap, leq_All_1.b2, g0, g1, g7, g8]
    exact hd _ _ (by omega) (fr _ _ _ _ _ gx gI (by omega) (fun _ _ => rfl))
end Pi


set_option linter.unusedSimpArgs false
set_option linter.unusedVariables false
namespace Pi
theorem flatten_ok {l : L} {z : List Bool} {n : Nat} (hz : z.length = n) (h : RightS l n 0 = true) : flattenV l z = .tu [.ag (cF (flattenF l z)), .i .i64 0] := by
  unfold flattenV
  rw [hz, if_pos h]
end Pi


set_option linter.unusedSimpArgs false
set_option linter.unusedVariables false
namespace Pi
structure Kn where
  a : L
  b : L
  deriving Inhabited
def cK (c : Kn) : List V := cL c.a ++ cL c.b
@[simp] theorem cK_len (c : Kn) : (cK c).length = 6 := by simp [cK]
@[simp] theorem cK_fz (c : Kn) (D : Nat → Option (Bool × List V × List V × List Nat)) : frzL D (cK c) = some (cK c, []) := by
  have := (Rm.full (f := cL) (k := 3) [c.a, c.b]).fz (D := D)
  rwa [List.flatMap_cons, List.flatMap_cons, List.flatMap_nil, List.append_nil] at this
instance : Cel cK 6 := ⟨cK_len, by decide, cK_fz⟩
@[simp] theorem cK_take6 (c : Kn) : (cK c).take 6 = cK c := List.take_of_length_le (by simp)
@[simp] theorem cK_take3 (c : Kn) : (cK c).take 3 = cL c.a := by unfold cK; simp
@[simp] theorem cK_drop3 (c : Kn) : (cK c).drop 3 = cL c.b := by unfold cK; simp
@[simp] theorem cK_mk (a b : L) : cL a ++ cL b = cK ⟨a, b⟩ := rfl
def Kn.Ok (c : Kn) : Prop := c.a.Ok ∧ c.b.Ok
def rightK (p : Int) (c : Kn) : Bool := RightS c.a p 0 && RightS c.b p 0
def RightU (cs : List Kn) (p : Int) : Bool := decide (0 ≤ p) && decide (p ≤ 5) && decide (cs.length ≤ 8) && cs.all (rightK p)
/-- A flat's atoms. -/
def atomsO : List Int → Nat → List A
  | [], _ => []
  | n :: r, i => if 0 ≤ n then ⟨i, n⟩ :: atomsO r (i + 1) else atomsO r (i + 1)
def atomsF (f : F) : List A := ⟨0, f.cst⟩ :: atomsO f.offs 1
/-- What holds in a case. -/
def clZ : List Bool → Nat → List C
  | [], _ => []
  | z :: r, i => if z then clZ r (i + 1) else ⟨[⟨i, 0⟩], ⟨0, 1⟩⟩ :: clZ r (i + 1)
def clKn (z : List Bool) (c : Kn) : List C := (atomsF (flattenF c.a z)).map fun t => ⟨atomsF (flattenF c.b z), t⟩
def clU (cs : List Kn) (z : List Bool) : List C := clZ z 1 ++ cs.flatMap (clKn z)
theorem atomsO_len : ∀ (l : List Int) (i : Nat), (atomsO l i).length ≤ l.length
  | [], _ => by simp [atomsO]
  | n :: r, i => by
    have := atomsO_len r (i + 1)
    unfold atomsO
    split <;> simp <;> omega
theorem atomsF_len (f : F) : (atomsF f).length ≤ f.offs.length + 1 := by
  have := atomsO_len f.offs 1
  simp [atomsF]; omega
theorem atomsO_app : ∀ (a b : List Int) (i : Nat), atomsO (a ++ b) i = atomsO a i ++ atomsO b (i + a.length)
  | [], b, i => by simp [atomsO]
  | n :: a, b, i => by
    rw [List.cons_append, atomsO, atomsO, atomsO_app a b (i + 1), List.length_cons, (by omega : i + 1 + a.length = i + (a.length + 1))]
    split <;> simp
theorem clZ_len : ∀ (l : List Bool) (i : Nat), (clZ l i).length ≤ l.length
  | [], _ => by simp [clZ]
  | n :: r, i => by
    have := clZ_len r (i + 1)
    unfold clZ
    split <;> simp <;> omega
theorem clZ_app : ∀ (a b : List Bool) (i : Nat), clZ (a ++ b) i = clZ a i ++ clZ b (i + a.length)
  | [], b, i => by simp [clZ]
  | n :: a, b, i => by
    rw [List.cons_append, clZ, clZ, clZ_app a b (i + 1), List.length_cons, (by omega : i + 1 + a.length = i + (a.length + 1))]
    split <;> simp
theorem flattenF_len {l : L} {z : List Bool} (h : RightS l z.length 0 = true) : (flattenF l z).offs.length = z.length := by
  obtain ⟨hp, hr⟩ := RightS_ok (q := 0) h
  have hbd := ofS_bd l z 12 hr
  unfold flattenF
  split
  · exact hbd.1
  · exact hbd.1
end Pi

