/- Contracts: the least model (layer 9): one round, on the program's side. -/
import Derived.Test.YtfdkpnckflmcaaaC08g
import Derived.Test.YtfdkpnckflmcaaaC09b
set_option linter.unusedSimpArgs false
set_option linter.unusedVariables false
namespace Pi
/-- Values from 0 on, none of which is great. -/
def SmallM (X : Int) (m : List Int) : Prop := ∀ i, 0 ≤ m.getD i 0 ∧ m.getD i 0 ≤ X
theorem SmallM.nats {X : Int} {m : List Int} (h : SmallM X m) (hX : X ≤ 1099511627776) : Nats m := by
  intro a ha
  obtain ⟨i, hi, rfl⟩ := List.mem_iff_getElem.1 ha
  have := h i
  rw [getD_get _ _ hi] at this
  omega
theorem SmallM.mono {X Y : Int} {m : List Int} (h : SmallM X m) (hY : X ≤ Y) : SmallM Y m := fun i => ⟨(h i).1, Int.le_trans (h i).2 hY⟩
theorem okC_mono {u v : Int} (h : u ≤ v) {c : C} (hc : okC u c = true) : okC v c = true := by
  unfold okC at *
  simp only [Bool.and_eq_true, List.all_eq_true] at *
  refine ⟨hc.1, fun a ha => ?_⟩
  have := hc.2 a ha
  simp only [okA, Bool.and_eq_true, decide_eq_true_eq] at *
  omega
theorem asks_small {X : Int} {m : List Int} {c : C} {n : Int} (h : SmallM X m) (hc : okC n c = true) : asksS m c ≤ X + 1000 := by
  obtain ⟨b, b1, b2⟩ := minS_mem m c.frm (okC_ne hc)
  have h1 := okC_frm hc b1
  have h2 := okC_to hc
  have h3 := h b.var.toNat
  unfold asksS
  rw [b2]
  unfold atS
  omega
theorem step_small {X : Int} {m : List Int} {c : C} {n : Int} (h : SmallM X m) (hc : okC n c = true) : SmallM (X + 1000) (stepC m c) := by
  intro i
  have h1 := h i
  have h2 := step_le m c i
  have h3 := asks_small h hc
  refine ⟨by omega, ?_⟩
  unfold stepC
  split
  · rw [getD_set]
    split <;> omega
  · omega
theorem fold_small {n : Int} : ∀ {l : List C} {X : Int} {m : List Int}, SmallM X m → (∀ c ∈ l, okC n c = true) → SmallM (X + 1000 * l.length) (l.foldl stepC m)
  | [], X, m, h, _ => by simpa using h
  | c :: r, X, m, h, hl => by
    have := fold_small (l := r) (step_small h (hl c (by simp))) (fun c hc => hl c (by simp [hc]))
    simp only [List.foldl_cons, List.length_cons]
    exact this.mono (by omega)
theorem fold_len (l : List C) (m : List Int) : (l.foldl stepC m).length = m.length := round_len l m
theorem step_max {m : List Int} {c : C} : stepC m c = m.set c.to.var.toNat (max (m.getD c.to.var.toNat 0) (asksS m c)) := by
  unfold stepC
  split
  · rw [Int.max_eq_right (by omega)]
  · rw [Int.max_eq_left (by omega)]
    by_cases h : c.to.var.toNat < m.length
    · rw [getD_get _ _ h, List.set_getElem_self]
    · rw [List.set_eq_of_length_le (by omega)]
theorem solve_model_round.a {m : List Int} {l : List C} (h16 : m.length = 16) (hs : SmallM 1000000 m) (hl : l.length ≤ 60) (hc : ∀ c ∈ l, okC 16 c = true) : Ans ctx solve_model_round.n [.ag (m.flatMap cI), sV cC l] (.ag ((roundC l m).flatMap cI)) := by
  refine ans solve_model_round.f ?_
  have hcl : (m.flatMap cI).length = 16 := by rw [flatI_len, h16]
  simp +contextual (disch := omega) [Nat.add_assoc, Int.add_assoc, if_pos, if_neg, -Int.not_lt, -Int.not_le, -Nat.not_lt, -Nat.not_le, -List.length_flatMap, solve_model_round.c, hcl]
  refine for_w (fun i e m' x => e 2 = .p 0 0 ∧ e 4 = .p 1 0 ∧ e 7 = sV cC l ∧ e 8 = .i .i64 l.length ∧ e 9 = .i .i64 i ∧ m' 0 = some (.cells (((l.take i).foldl stepC m).flatMap cI) false) ∧ (∃ cs, m' 1 = some (.cells cs false) ∧ cs.length = 16) ∧ 2 ≤ x) l.length ?_ ?_ ?_
  · simp +contextual (disch := omega) [Nat.add_assoc, Int.add_assoc, if_pos, if_neg, -Int.not_lt, -Int.not_le, -Nat.not_lt, -Nat.not_le, -List.length_flatMap]
  · rintro i e m' x hi ⟨g1, g2, g3, g4, g5, g6, ⟨cs, g7, g8⟩, g9⟩
    have hok := hc l[i] (List.getElem_mem hi)
    have hto := okC_to hok
    have hsm := fold_small (n := 16) hs (fun c hq => hc c (List.mem_of_mem_take hq)) (l := l.take i)
    have hq16 := fold_len (l.take i) m
    rw [take_fold hi, step_max]
    generalize (l.take i).foldl stepC m = q at *
    have hlt : (l.take i).length ≤ 60 := by rw [List.length_take]; omega
    have hq : SmallM 1100000 q := hsm.mono (by omega)
    rw [h16] at hq16
    have hA := horn_Asks.a (hq.nats (by omega)) (c := l[i]) (by rw [hq16]; exact hok) (by omega)
    have hA' : Ans ctx horn_Asks.n [.ag (cC l[i]), .sl (q.flatMap cI) 16] (.i .i64 (asksS q l[i])) := by
      have e : sV cI q = .sl (q.flatMap cI) 16 := by unfold sV; rw [hq16]
      rw [← e]; exact hA
    have hv := getD_get q 0 (by omega : l[i].to.var.toNat < q.length)
    have hql : (q.flatMap cI).length = 16 := by rw [flatI_len, hq16]
    have htk : (q.flatMap cI).take 16 = q.flatMap cI := List.take_of_length_le (by omega)
    simp +contextual (disch := omega) [Nat.add_assoc, Int.add_assoc, if_pos, if_neg, -Int.not_lt, -Int.not_le, -Nat.not_lt, -Nat.not_le, -List.length_flatMap, solve_model_round.b1, g1, g2, g3, g4, g5, g6, g7, hi, hq16, ansK hA', hql, htk, flatI_get]
    exact ⟨flatI_set (by omega), g8⟩
  · rintro e m' x ⟨g1, g2, g3, g4, g5, g6, ⟨cs, g7, g8⟩, g9⟩
    rw [List.take_length] at g6
    have hql : (((l.foldl stepC m).flatMap cI)).length = 16 := by rw [flatI_len, fold_len, h16]
    have htk : ((l.foldl stepC m).flatMap cI).take 16 = (l.foldl stepC m).flatMap cI := List.take_of_length_le (by omega)
    simp +contextual (disch := omega) [Nat.add_assoc, Int.add_assoc, if_pos, if_neg, -Int.not_lt, -Int.not_le, -Nat.not_lt, -Nat.not_le, -List.length_flatMap, solve_model_round.b1, g1, g2, g3, g4, g5, g6, g7, g8, hql, htk]
    rfl
def pad16 (m : List Int) : List Int := m ++ List.replicate (16 - m.length) 0
theorem pad_len {m : List Int} (h : m.length ≤ 16) : (pad16 m).length = 16 := by simp [pad16]; omega
theorem pad_at (m : List Int) (i : Nat) : (pad16 m).getD i 0 = m.getD i 0 := by
  unfold pad16
  simp only [List.getD_eq_getElem?_getD]
  by_cases h : i < m.length
  · rw [List.getElem?_append_left h]
  · rw [List.getElem?_append_right (by omega), List.getElem?_eq_none (by omega : m.length ≤ i), List.getElem?_replicate]
    split <;> rfl
theorem pad_asks (m : List Int) (c : C) : asksS (pad16 m) c = asksS m c := by
  have h1 : ∀ a, atS (pad16 m) a = atS m a := fun a => by unfold atS; rw [pad_at]
  have h2 : atS (pad16 m) = atS m := funext h1
  unfold asksS minS
  rw [h2]
theorem pad_step {m : List Int} {c : C} (h : c.to.var.toNat < m.length) : stepC (pad16 m) c = pad16 (stepC m c) := by
  unfold stepC
  rw [pad_at, pad_asks]
  split
  · unfold pad16
    rw [List.set_append_left _ _ h, List.length_set]
  · rfl
theorem pad_fold {n : Int} : ∀ {l : List C} {m : List Int}, n ≤ m.length → (∀ c ∈ l, okC n c = true) → l.foldl stepC (pad16 m) = pad16 (l.foldl stepC m)
  | [], m, _, _ => rfl
  | c :: r, m, hn, hl => by
    have := okC_to (hl c (by simp))
    simp only [List.foldl_cons]
    rw [pad_step (by omega)]
    exact pad_fold (by rw [step_len]; exact hn) (fun c hc => hl c (by simp [hc]))
theorem pad_take (m : List Int) : (pad16 m).take m.length = m := by simp [pad16]
theorem pad_inj {a b : List Int} (hl : a.length = b.length) : pad16 a = pad16 b ↔ a = b := by
  constructor
  · intro h
    have := congrArg (List.take a.length) h
    rw [pad_take, hl, pad_take] at this
    exact this
  · intro h; rw [h]
theorem pad_small {X : Int} {m : List Int} (h : SmallM X m) : SmallM X (pad16 m) := fun i => by rw [pad_at]; exact h i
theorem solve_of.a {l : List Int} (hl : l.length ≤ 16) : Ans ctx solve_of.n [sV cI l] (.ag ((pad16 l).flatMap cI)) := by
  refine ans solve_of.f ?_
  have hp : l.flatMap cI ++ List.drop l.length [V.i .i64 0, V.i .i64 0, V.i .i64 0, V.i .i64 0, V.i .i64 0, V.i .i64 0, V.i .i64 0, V.i .i64 0, V.i .i64 0, V.i .i64 0, V.i .i64 0, V.i .i64 0, V.i .i64 0, V.i .i64 0, V.i .i64 0, V.i .i64 0] = (pad16 l).flatMap cI := by
    unfold pad16
    rw [List.flatMap_append, flatI_map (List.replicate _ _), List.map_replicate, ← List.drop_replicate]
    rfl
  have h1 := flatI_all (rfl : l.length = l.length)
  have h2 : ((pad16 l).flatMap cI).length = 16 := by rw [flatI_len, pad_len hl]
  have h3 := flatI_all (pad_len hl).symm
  simp +contextual (disch := omega) [Nat.add_assoc, Int.add_assoc, if_pos, if_neg, -Int.not_lt, -Int.not_le, -Nat.not_lt, -Nat.not_le, -List.length_flatMap, solve_of.c, h1, hp, h2, h3]
theorem solve_limit.a {vars : Int} {l : List C} (hr : rightC vars l = true) : Ans ctx solve_limit.n [.i .i64 vars, sV cC l] (.i .i64 ((vars - 1) * mostS l)) := by
  refine ans solve_limit.f ?_
  obtain ⟨r1, r2, r3, r4⟩ := right_ok hr
  have hm := horn_Most.a vars l (by omega) (fun c hc => Nat.le_trans (okC_six (r4 c hc)) (by omega))
  rw [mostV, if_pos hr] at hm
  have hb := mostS_bd r4
  have h1 : 0 ≤ (vars - 1) * mostS l := Int.mul_nonneg (by omega) hb.1
  have h2 : (vars - 1) * mostS l ≤ 15 * 1000 := Int.mul_le_mul (by omega) hb.2 hb.1 (by omega)
  simp +contextual (disch := omega) [Nat.add_assoc, Int.add_assoc, if_pos, if_neg, -Int.not_lt, -Int.not_le, -Nat.not_lt, -Nat.not_le, -List.length_flatMap, solve_limit.c, ansK hm]
/-- The greatest value; no value is below 0. -/
def maxL (m : List Int) : Int := m.foldl max 0
theorem maxL_take {m : List Int} {i : Nat} (h : i < m.length) : maxL (m.take (i + 1)) = max (maxL (m.take i)) m[i] := take_fold h
theorem fold_mx (m : List Int) : ∀ b : Int, b ≤ m.foldl max b ∧ (∀ v ∈ m, v ≤ m.foldl max b) ∧ (m.foldl max b = b ∨ m.foldl max b ∈ m) := by
  induction m with
  | nil => intro b; simp
  | cons a r ih =>
    intro b
    simp only [List.foldl_cons]
    obtain ⟨h1, h2, h3⟩ := ih (max b a)
    refine ⟨by omega, fun v hv => ?_, ?_⟩
    · rcases List.mem_cons.1 hv with rfl | hv
      · omega
      · exact h2 v hv
    · rcases h3 with h3 | h3
      · rw [h3]
        by_cases h : b ≤ a
        · rw [Int.max_eq_right h]; exact .inr (by simp)
        · rw [Int.max_eq_left (by omega)]; exact .inl rfl
      · exact .inr (by simp [h3])
theorem slices_Max_int.a9 {m : List Int} (hm : Nats m) (hl : m.length ≤ 1000) (h0 : m ≠ []) : Ans ctx slices_Max_int.n [sV cI m] (.i .i64 (maxL m)) := by
  refine ans slices_Max_int.f ?_
  have h1 : 0 < m.length := List.length_pos_iff.2 h0
  have hb : ∀ (i : Nat) (hi : i < m.length), 0 ≤ m[i] ∧ m[i] ≤ 1099511627776 := fun i hi => hm _ (List.getElem_mem hi)
  have e1 : maxL (m.take 1) = m[0] := by
    have := maxL_take h1
    simp only [Nat.zero_add] at this
    rw [this]
    have := hb 0 h1
    show max (0 : Int) m[0] = m[0]
    omega
  simp +contextual (disch := omega) [Nat.add_assoc, Int.add_assoc, if_pos, if_neg, -Int.not_lt, -Int.not_le, -Nat.not_lt, -Nat.not_le, -List.length_flatMap, slices_Max_int.c, h1]
  refine for_w (fun i e m' x => e 0 = sV cI m ∧ e 4 = .i .i64 (i + 1 : Nat) ∧ e 3 = .i .i64 (maxL (m.take (i + 1)))) (m.length - 1) ?_ ?_ ?_
  · simp +contextual (disch := omega) [Nat.add_assoc, Int.add_assoc, if_pos, if_neg, -Int.not_lt, -Int.not_le, -Nat.not_lt, -Nat.not_le, -List.length_flatMap, e1]
  · rintro i e m' x hi ⟨g1, g2, g3⟩
    have hi' : i + 1 < m.length := by omega
    have e2 := maxL_take hi'
    simp +contextual (disch := omega) [Nat.add_assoc, Int.add_assoc, if_pos, if_neg, -Int.not_lt, -Int.not_le, -Nat.not_lt, -Nat.not_le, -List.length_flatMap, slices_Max_int.b1, g1, g2, g3, hi', e2]
  · rintro e m' x ⟨g1, g2, g3⟩
    have e3 : m.length - 1 + 1 = m.length := by omega
    rw [e3] at g2 g3
    rw [List.take_length] at g3
    simp +contextual (disch := omega) [Nat.add_assoc, Int.add_assoc, if_pos, if_neg, -Int.not_lt, -Int.not_le, -Nat.not_lt, -Nat.not_le, -List.length_flatMap, slices_Max_int.b1, g1, g2, g3]
end Pi
