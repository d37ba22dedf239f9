/- Contracts: levels as bytes (layer 3): what is written is what the document says. -/
import Derived.Test.YtdeichdplcafcaaC01
set_option linter.unusedSimpArgs false
set_option linter.unusedVariables false
namespace Pi
/-- What a maker picks. -/
def pickS (l : List Nat) (i n : Nat) : Nat := (l[i]?.getD 0) % n
theorem pickS_lt (l : List Nat) (i n : Nat) (h : 0 < n) : pickS l i n < n := Nat.mod_lt _ h
theorem pick_w {m : Sto} {x a : Nat} {l : List Nat} {i n : Nat} {K : CR → Sto → Nat → Prop} (hm : m a = some (.cells [sV cU l, .i .i64 i] false)) (hb : Byt l) (hi : i ≤ 1000000000) (hn : 0 < n ∧ n ≤ 256)
    (hK : ∀ x', x ≤ x' → K (.ret (.i .i64 (pickS l i n : Nat))) (m.set a (some (.cells [sV cU l, .i .i64 ((i + 1 : Nat) : Int)] false))) x') :
    wpCall ctx (.fn (.func law02_Maker_Pick.n) [] []) [.p a 0, .i .i64 n] m x K := by
  refine open_w law02_Maker_Pick.f rfl (.inl rfl) ?_
  by_cases h : i < l.length
  · have hbi := hb.at h
    have hp : ((pickS l i n : Nat) : Int) = (l[i] : Int) % n := by simp [pickS, h]
    simp +contextual (disch := omega) [Nat.add_assoc, Int.add_assoc, if_pos, if_neg, -Int.not_lt, -Int.not_le, -Nat.not_lt, -Nat.not_le, -List.length_flatMap, law02_Maker_Pick.c, hm, h, Int.tmod_eq_emod_of_nonneg]
    have := hK (x + 34) (by omega)
    rw [hp] at this
    simpa using this
  · have hp : pickS l i n = 0 := by simp [pickS, List.getElem?_eq_none (by omega : l.length ≤ i)]
    rw [hp] at hK
    simp +contextual (disch := omega) [Nat.add_assoc, Int.add_assoc, if_pos, if_neg, -Int.not_lt, -Int.not_le, -Nat.not_lt, -Nat.not_le, -List.length_flatMap, law02_Maker_Pick.c, hm]
    have := hK (x + 20) (by omega)
    simpa using this

/-- What a maker makes: a level, and how many it has picked then. -/
def mkS (l : List Nat) (p q : Nat) : Nat → Nat → L × Nat
  | 0, i =>
    let k := pickS l i 10 % 4
    if (k = 1 ∧ 0 < p) ∨ (k = 2 ∧ 0 < p ∧ q = 0) then (.mk 5 (pickS l (i + 1) p : Nat) [], i + 2)
    else if (k = 2 ∨ k = 3) ∧ 0 < q then (.mk 6 (pickS l (i + 1) q : Nat) [], i + 2)
    else (.mk 1 0 [], i + 1)
  | d + 1, i =>
    let k := if d = 0 then pickS l i 10 % 4 else pickS l i 10
    if (k = 1 ∧ 0 < p) ∨ (k = 2 ∧ 0 < p ∧ q = 0) then (.mk 5 (pickS l (i + 1) p : Nat) [], i + 2)
    else if (k = 2 ∨ k = 3) ∧ 0 < q then (.mk 6 (pickS l (i + 1) q : Nat) [], i + 2)
    else if k < 4 then (.mk 1 0 [], i + 1)
    else
      let r := mkS l p q d (i + 1)
      let s := mkS l p q d r.2
      if k < 6 then (.mk 2 0 [r.1], r.2) else if k < 8 then (.mk 3 0 [r.1, s.1], s.2) else (.mk 4 0 [r.1, s.1], s.2)
theorem mkS_bd (l : List Nat) (p q d : Nat) : ∀ i, i ≤ (mkS l p q d i).2 ∧ (mkS l p q d i).2 ≤ i + 4 ^ (d + 1) := by
  induction d with
  | zero =>
    intro i
    simp only [mkS]
    split
    · simp
    · split <;> simp
  | succ d ih =>
    intro i
    have h0 : 4 ≤ 4 ^ (d + 1) := by
      calc 4 = 4 ^ 1 := rfl
        _ ≤ 4 ^ (d + 1) := Nat.pow_le_pow_right (by omega) (by omega)
    have h1 := ih (i + 1)
    have h2 := ih (mkS l p q d (i + 1)).2
    have h3 : 4 ^ (d + 1 + 1) = 4 * 4 ^ (d + 1) := by rw [Nat.pow_succ, Nat.mul_comm]
    simp only [mkS]
    generalize hk : (if d = 0 then pickS l i 10 % 4 else pickS l i 10) = k
    split
    · simp only; omega
    · split
      · simp only; omega
      · split
        · simp only; omega
        · split
          · simp only; omega
          · split <;> (simp only; omega)

theorem mkS_eq (l : List Nat) (p q d i : Nat) : mkS l p q (d + 1) i =
    (let k := if d = 0 then pickS l i 10 % 4 else pickS l i 10
    if (k = 1 ∧ 0 < p) ∨ (k = 2 ∧ 0 < p ∧ q = 0) then (.mk 5 (pickS l (i + 1) p : Nat) [], i + 2)
    else if (k = 2 ∨ k = 3) ∧ 0 < q then (.mk 6 (pickS l (i + 1) q : Nat) [], i + 2)
    else if k < 4 then (.mk 1 0 [], i + 1)
    else
      let r := mkS l p q d (i + 1)
      let s := mkS l p q d r.2
      if k < 6 then (.mk 2 0 [r.1], r.2) else if k < 8 then (.mk 3 0 [r.1, s.1], s.2) else (.mk 4 0 [r.1, s.1], s.2)) := rfl
/-- What is asked of what stands behind a maker's call. -/
def MadeK (l : List Nat) (a x d : Nat) (m : Sto) (r : L × Nat) (K : CR → Sto → Nat → Prop) : Prop :=
  ∀ cs m' x', cs.length = 3 → m' a = some (.cells [sV cU l, .i .i64 (r.2 : Nat)] false) → (∀ j, j < x → j ≠ a → m' j = m j) → x ≤ x' → FzAt m' x x' d cs (cL r.1) → K (.ret (.ag cs)) m' x'

set_option maxHeartbeats 4000000 in
theorem made_w (l : List Nat) (hb : Byt l) (p q : Nat) (hp : p ≤ 256) (hq : q ≤ 256) (a : Nat) : ∀ (d : Nat), d ≤ 10 → ∀ (i : Nat) {m : Sto} {x : Nat} {K : CR → Sto → Nat → Prop}, i + 4 ^ (d + 2) ≤ 1000000000 → a < x → m a = some (.cells [sV cU l, .i .i64 i] false) →
    MadeK l a x (d + 2) m (mkS l p q (d + 1) i) K →
    wpCall ctx (.fn (.func law02_Maker_Level.n) [] []) [.p a 0, .i .i64 p, .i .i64 q, .i .i64 ((d : Int) + 1)] m x K := by
  intro d
  induction d using Nat.strongRecOn with
  | ind d ih =>
  intro hd i m x K hi hax hm hK
  have h4 : 16 ≤ 4 ^ (d + 2) := by
    calc 16 = 4 ^ 2 := rfl
      _ ≤ 4 ^ (d + 2) := Nat.pow_le_pow_right (by omega) (by omega)
  refine open_w law02_Maker_Level.f rfl (.inl rfl) ?_
  simp +contextual (disch := omega) [Nat.add_assoc, Int.add_assoc, if_pos, if_neg, -Int.not_lt, -Int.not_le, -Nat.not_lt, -Nat.not_le, -List.length_flatMap, law02_Maker_Level.c]
  refine pick_w (l := l) (i := i) (n := 10) (by simp +contextual (disch := omega) [Nat.add_assoc, Int.add_assoc, if_pos, if_neg, -Int.not_lt, -Int.not_le, -Nat.not_lt, -Nat.not_le, -List.length_flatMap, hm]) hb (by omega) (by omega) ?_
  intro x1 hx1
  have hk := pickS_lt l i 10 (by omega)
  rw [mkS_eq] at hK
  generalize pickS l i 10 = k at hk hK
  have hk4 : ((k : Int)).tmod 4 = ((k % 4 : Nat) : Int) := by rw [Int.tmod_eq_emod_of_nonneg (by omega)]; omega
  generalize hkk : (if d = 0 then k % 4 else k) = kk at hK
  simp only at hK
  have hkc : (d = 0 ∧ (k : Int).tmod 4 = kk ∧ kk < 4) ∨ (0 < d ∧ (k : Int) = kk ∧ kk < 10) := by
    rcases Nat.eq_zero_or_pos d with h0 | h0
    · rw [if_pos h0] at hkk
      exact .inl ⟨h0, by rw [hk4, hkk], by omega⟩
    · rw [if_neg (by omega)] at hkk
      exact .inr ⟨h0, by omega, by omega⟩
  clear hk4 hkk
  have leaf : ∀ (m' : Sto) (x' : Nat) (u v : Int), FzAt m' x x' (d + 2) [.i .i64 u, .i .i64 v, .ns] (cL (.mk u v [])) := fun m' x' u v m2 _ dd _ => ⟨[], by simp⟩
  by_cases hA : (kk = 1 ∧ 0 < p) ∨ (kk = 2 ∧ 0 < p ∧ q = 0)
  · rw [if_pos hA] at hK
    have fin : ∀ (m' : Sto) (x' : Nat), x < x' → m' x = some (.cells [.i .i64 5, .i .i64 (pickS l (i + 1) p : Nat), .ns] false) → m' a = some (.cells [sV cU l, .i .i64 ((i + 2 : Nat) : Int)] false) → (∀ j, j < x → j ≠ a → m' j = m j) → K (.ret (.ag [.i .i64 5, .i .i64 (pickS l (i + 1) p : Nat), .ns])) m' x' :=
      fun m' x' h1 h2 h3 h4 => hK _ m' x' rfl h3 h4 (by omega) (leaf _ _ _ _)
    rcases hA with ⟨hA1, hA2⟩ | ⟨hA1, hA2, hA3⟩ <;> rcases hkc with ⟨h0, hk4, h5⟩ | ⟨h0, hk4, h5⟩
    all_goals (simp +contextual (disch := omega) [Nat.add_assoc, Int.add_assoc, if_pos, if_neg, -Int.not_lt, -Int.not_le, -Nat.not_lt, -Nat.not_le, -List.length_flatMap, hm, hk4])
    all_goals refine pick_w (l := l) (i := i + 1) (n := p) (by simp +contextual (disch := omega) [Nat.add_assoc, Int.add_assoc, if_pos, if_neg, -Int.not_lt, -Int.not_le, -Nat.not_lt, -Nat.not_le, -List.length_flatMap]) hb (by omega) (by omega) ?_
    all_goals intro x2 hx2
    all_goals (simp +contextual (disch := omega) [Nat.add_assoc, Int.add_assoc, if_pos, if_neg, -Int.not_lt, -Int.not_le, -Nat.not_lt, -Nat.not_le, -List.length_flatMap])
    all_goals refine fin _ _ (by omega) (by simp +contextual (disch := omega) [Nat.add_assoc, Int.add_assoc, if_pos, if_neg, -Int.not_lt, -Int.not_le, -Nat.not_lt, -Nat.not_le, -List.length_flatMap]) (by simp +contextual (disch := omega) [Nat.add_assoc, Int.add_assoc, if_pos, if_neg, -Int.not_lt, -Int.not_le, -Nat.not_lt, -Nat.not_le, -List.length_flatMap]) (by simp +contextual (disch := omega) [Nat.add_assoc, Int.add_assoc, if_pos, if_neg, -Int.not_lt, -Int.not_le, -Nat.not_lt, -Nat.not_le, -List.length_flatMap])
  · rw [if_neg hA] at hK
    by_cases hB : (kk = 2 ∨ kk = 3) ∧ 0 < q
    · rw [if_pos hB] at hK
      have fin : ∀ (m' : Sto) (x' : Nat), x < x' → m' x = some (.cells [.i .i64 6, .i .i64 (pickS l (i + 1) q : Nat), .ns] false) → m' a = some (.cells [sV cU l, .i .i64 ((i + 2 : Nat) : Int)] false) → (∀ j, j < x → j ≠ a → m' j = m j) → K (.ret (.ag [.i .i64 6, .i .i64 (pickS l (i + 1) q : Nat), .ns])) m' x' :=
        fun m' x' h1 h2 h3 h4 => hK _ m' x' rfl h3 h4 (by omega) (leaf _ _ _ _)
      obtain ⟨hB1, hB2⟩ := hB
      rcases hB1 with hB1 | hB1 <;> rcases Nat.eq_zero_or_pos p with h6 | h6 <;> rcases hkc with ⟨h0, hk4, h5⟩ | ⟨h0, hk4, h5⟩
      all_goals (simp +contextual (disch := omega) [Nat.add_assoc, Int.add_assoc, if_pos, if_neg, -Int.not_lt, -Int.not_le, -Nat.not_lt, -Nat.not_le, -List.length_flatMap, hm, hk4])
      all_goals refine pick_w (l := l) (i := i + 1) (n := q) (by simp +contextual (disch := omega) [Nat.add_assoc, Int.add_assoc, if_pos, if_neg, -Int.not_lt, -Int.not_le, -Nat.not_lt, -Nat.not_le, -List.length_flatMap]) hb (by omega) (by omega) ?_
      all_goals intro x2 hx2
      all_goals (simp +contextual (disch := omega) [Nat.add_assoc, Int.add_assoc, if_pos, if_neg, -Int.not_lt, -Int.not_le, -Nat.not_lt, -Nat.not_le, -List.length_flatMap])
      all_goals refine fin _ _ (by omega) (by simp +contextual (disch := omega) [Nat.add_assoc, Int.add_assoc, if_pos, if_neg, -Int.not_lt, -Int.not_le, -Nat.not_lt, -Nat.not_le, -List.length_flatMap]) (by simp +contextual (disch := omega) [Nat.add_assoc, Int.add_assoc, if_pos, if_neg, -Int.not_lt, -Int.not_le, -Nat.not_lt, -Nat.not_le, -List.length_flatMap]) (by simp +contextual (disch := omega) [Nat.add_assoc, Int.add_assoc, if_pos, if_neg, -Int.not_lt, -Int.not_le, -Nat.not_lt, -Nat.not_le, -List.length_flatMap])
    · rw [if_neg hB] at hK
      by_cases hC : kk < 4
      · rw [if_pos hC] at hK
        have fin : ∀ (m' : Sto) (x' : Nat), x < x' → m' a = some (.cells [sV cU l, .i .i64 ((i + 1 : Nat) : Int)] false) → (∀ j, j < x → j ≠ a → m' j = m j) → K (.ret (.ag [.i .i64 1, .i .i64 0, .ns])) m' x' :=
          fun m' x' h1 h3 h4 => hK _ m' x' rfl h3 h4 (by omega) (leaf _ _ _ _)
        rcases (by omega : kk = 0 ∨ kk = 1 ∨ kk = 2 ∨ kk = 3) with hC1 | hC1 | hC1 | hC1 <;> rcases hkc with ⟨h0, hk4, h5⟩ | ⟨h0, hk4, h5⟩
        all_goals (simp +contextual (disch := omega) [Nat.add_assoc, Int.add_assoc, if_pos, if_neg, -Int.not_lt, -Int.not_le, -Nat.not_lt, -Nat.not_le, -List.length_flatMap, hm, hk4])
        all_goals refine fin _ _ (by omega) (by simp +contextual (disch := omega) [Nat.add_assoc, Int.add_assoc, if_pos, if_neg, -Int.not_lt, -Int.not_le, -Nat.not_lt, -Nat.not_le, -List.length_flatMap]) (by simp +contextual (disch := omega) [Nat.add_assoc, Int.add_assoc, if_pos, if_neg, -Int.not_lt, -Int.not_le, -Nat.not_lt, -Nat.not_le, -List.length_flatMap])
      · rw [if_neg hC] at hK
        rcases hkc with ⟨h0, hk4, h5⟩ | ⟨h0, hk4, h5⟩
        · omega
        obtain ⟨d, rfl⟩ : ∃ e, d = e + 1 := ⟨d - 1, by omega⟩
        have h44 : 4 ^ (d + 1 + 2) = 4 * 4 ^ (d + 2) := by rw [Nat.pow_succ, Nat.mul_comm]
        have hdd : (d : Int) + 2 - 1 = d + 1 := by omega
        by_cases hD : kk < 6
        · rw [if_pos hD] at hK
          simp +contextual (disch := omega) [Nat.add_assoc, Int.add_assoc, if_pos, if_neg, -Int.not_lt, -Int.not_le, -Nat.not_lt, -Nat.not_le, -List.length_flatMap, hm, hk4, hdd]
          refine ih d (by omega) (by omega) (i + 1) (by omega) (by omega) (by simp +contextual (disch := omega) [Nat.add_assoc, Int.add_assoc, if_pos, if_neg, -Int.not_lt, -Int.not_le, -Nat.not_lt, -Nat.not_le, -List.length_flatMap]) ?_
          intro cs m1 x2 q1 q2 q3 q4 q5
          have ht : cs.take 3 = cs := List.take_of_length_le (by omega)
          have q3x := q3 x (by omega) (by omega)
          simp (disch := omega) at q3x
          generalize mkS l p q (d + 1) (i + 1) = r1 at hK q2 q5
          simp +contextual (disch := omega) [Nat.add_assoc, Int.add_assoc, if_pos, if_neg, -Int.not_lt, -Int.not_le, -Nat.not_lt, -Nat.not_le, -List.length_flatMap, q1, q3x, ht]
          refine hK _ _ _ rfl (by simp +contextual (disch := omega) [Nat.add_assoc, Int.add_assoc, if_pos, if_neg, -Int.not_lt, -Int.not_le, -Nat.not_lt, -Nat.not_le, -List.length_flatMap, q2]) (fun j h1 h2 => ?_) (by omega) ?_
          · have e2 := q3 j (by omega) h2
            simp +contextual (disch := omega) [Nat.add_assoc, Int.add_assoc, if_pos, if_neg, -Int.not_lt, -Int.not_le, -Nat.not_lt, -Nat.not_le, -List.length_flatMap, e2]
          · have z2 := (q5.low (lo' := x + 1) (by omega)).ms (esz := 3) (n := 1) (m' := (m1.set x2 (some (.cells cs false))).set x (some (.cells [.i .i64 2, .i .i64 0, .ms x2 0 1 3] false))) (x' := x2 + 3) (a := x2) (ro := false) (cs := cs) (by simp +contextual (disch := omega) [Nat.add_assoc, Int.add_assoc, if_pos, if_neg, -Int.not_lt, -Int.not_le, -Nat.not_lt, -Nat.not_le, -List.length_flatMap]) (by simp +contextual (disch := omega) [Nat.add_assoc, Int.add_assoc, if_pos, if_neg, -Int.not_lt, -Int.not_le, -Nat.not_lt, -Nat.not_le, -List.length_flatMap]) (by omega) (by omega) (by omega) (by simp)
            have z3 := (FzAt.fr (m := _) (lo := x + 1) (x := x2 + 3) (k := d + 1 + 2) (cs := [.i .i64 2, .i .i64 0]) (by simp)).app z2
            rw [cL_at]
            simpa [sV] using z3.low (lo' := x) (by omega)
        · rw [if_neg hD] at hK
          by_cases hE : kk < 8
          · rw [if_pos hE] at hK
            simp +contextual (disch := omega) [Nat.add_assoc, Int.add_assoc, if_pos, if_neg, -Int.not_lt, -Int.not_le, -Nat.not_lt, -Nat.not_le, -List.length_flatMap, hm, hk4, hdd]
            refine ih d (by omega) (by omega) (i + 1) (by omega) (by omega) (by simp +contextual (disch := omega) [Nat.add_assoc, Int.add_assoc, if_pos, if_neg, -Int.not_lt, -Int.not_le, -Nat.not_lt, -Nat.not_le, -List.length_flatMap]) ?_
            intro cs m1 x2 q1 q2 q3 q4 q5
            have ht : cs.take 3 = cs := List.take_of_length_le (by omega)
            simp +contextual (disch := omega) [Nat.add_assoc, Int.add_assoc, if_pos, if_neg, -Int.not_lt, -Int.not_le, -Nat.not_lt, -Nat.not_le, -List.length_flatMap, q1, hdd]
            have hb1 := mkS_bd l p q (d + 1) (i + 1)
            have hb2 : 4 ^ (d + 1 + 1) = 4 ^ (d + 2) := rfl
            have hdr : (cs ++ [V.i .i64 0, .i .i64 0, .ns]).drop 6 = [] := List.drop_of_length_le (by simp; omega)
            generalize mkS l p q (d + 1) (i + 1) = r1 at hK q2 q5 hb1
            refine ih d (by omega) (by omega) r1.2 (by omega) (by omega) q2 ?_
            intro cs2 m2 x3 p1 p2 p3 p4 p5
            have ht2 : cs2.take 3 = cs2 := List.take_of_length_le (by omega)
            have e1 := (p3 x (by omega) (by omega)).trans (q3 x (by omega) (by omega))
            simp (disch := omega) at e1
            generalize mkS l p q (d + 1) r1.2 = r2 at hK p2 p5
            simp +contextual (disch := omega) [Nat.add_assoc, Int.add_assoc, if_pos, if_neg, -Int.not_lt, -Int.not_le, -Nat.not_lt, -Nat.not_le, -List.length_flatMap, q1, p1, ht, ht2, e1, hdr]
            refine hK _ _ _ rfl (by simp +contextual (disch := omega) [Nat.add_assoc, Int.add_assoc, if_pos, if_neg, -Int.not_lt, -Int.not_le, -Nat.not_lt, -Nat.not_le, -List.length_flatMap, p2]) (fun j h1 h2 => ?_) (by omega) ?_
            · have e2 := (p3 j (by omega) h2).trans (q3 j (by omega) h2)
              simp +contextual (disch := omega) [Nat.add_assoc, Int.add_assoc, if_pos, if_neg, -Int.not_lt, -Int.not_le, -Nat.not_lt, -Nat.not_le, -List.length_flatMap, e2]
            · have z := (q5.low (lo' := x + 1) (by omega)).up (x' := x3) (m' := m2) (by omega) (Nat.le_refl _) (fun j h1 h2 => p3 j (by omega) (by omega))
              have z2 := (z.app (p5.low (by omega))).ms (esz := 3) (n := 2) (m' := (m2.set x3 (some (.cells (cs ++ cs2) false))).set x (some (.cells [.i .i64 3, .i .i64 0, .ms x3 0 2 3] false))) (x' := x3 + 3) (a := x3) (ro := false) (cs := cs ++ cs2) (by simp +contextual (disch := omega) [Nat.add_assoc, Int.add_assoc, if_pos, if_neg, -Int.not_lt, -Int.not_le, -Nat.not_lt, -Nat.not_le, -List.length_flatMap]) (by simp +contextual (disch := omega) [Nat.add_assoc, Int.add_assoc, if_pos, if_neg, -Int.not_lt, -Int.not_le, -Nat.not_lt, -Nat.not_le, -List.length_flatMap]) (by omega) (by omega) (by omega) (by simp)
              have z3 := (FzAt.fr (m := _) (lo := x + 1) (x := x3 + 3) (k := d + 1 + 2) (cs := [.i .i64 3, .i .i64 0]) (by simp)).app z2
              rw [cL_at]
              simpa [sV] using z3.low (lo' := x) (by omega)
          · rw [if_neg hE] at hK
            simp +contextual (disch := omega) [Nat.add_assoc, Int.add_assoc, if_pos, if_neg, -Int.not_lt, -Int.not_le, -Nat.not_lt, -Nat.not_le, -List.length_flatMap, hm, hk4, hdd]
            refine ih d (by omega) (by omega) (i + 1) (by omega) (by omega) (by simp +contextual (disch := omega) [Nat.add_assoc, Int.add_assoc, if_pos, if_neg, -Int.not_lt, -Int.not_le, -Nat.not_lt, -Nat.not_le, -List.length_flatMap]) ?_
            intro cs m1 x2 q1 q2 q3 q4 q5
            have ht : cs.take 3 = cs := List.take_of_length_le (by omega)
            simp +contextual (disch := omega) [Nat.add_assoc, Int.add_assoc, if_pos, if_neg, -Int.not_lt, -Int.not_le, -Nat.not_lt, -Nat.not_le, -List.length_flatMap, q1, hdd]
            have hb1 := mkS_bd l p q (d + 1) (i + 1)
            have hb2 : 4 ^ (d + 1 + 1) = 4 ^ (d + 2) := rfl
            have hdr : (cs ++ [V.i .i64 0, .i .i64 0, .ns]).drop 6 = [] := List.drop_of_length_le (by simp; omega)
            generalize mkS l p q (d + 1) (i + 1) = r1 at hK q2 q5 hb1
            refine ih d (by omega) (by omega) r1.2 (by omega) (by omega) q2 ?_
            intro cs2 m2 x3 p1 p2 p3 p4 p5
            have ht2 : cs2.take 3 = cs2 := List.take_of_length_le (by omega)
            have e1 := (p3 x (by omega) (by omega)).trans (q3 x (by omega) (by omega))
            simp (disch := omega) at e1
            generalize mkS l p q (d + 1) r1.2 = r2 at hK p2 p5
            simp +contextual (disch := omega) [Nat.add_assoc, Int.add_assoc, if_pos, if_neg, -Int.not_lt, -Int.not_le, -Nat.not_lt, -Nat.not_le, -List.length_flatMap, q1, p1, ht, ht2, e1, hdr]
            refine hK _ _ _ rfl (by simp +contextual (disch := omega) [Nat.add_assoc, Int.add_assoc, if_pos, if_neg, -Int.not_lt, -Int.not_le, -Nat.not_lt, -Nat.not_le, -List.length_flatMap, p2]) (fun j h1 h2 => ?_) (by omega) ?_
            · have e2 := (p3 j (by omega) h2).trans (q3 j (by omega) h2)
              simp +contextual (disch := omega) [Nat.add_assoc, Int.add_assoc, if_pos, if_neg, -Int.not_lt, -Int.not_le, -Nat.not_lt, -Nat.not_le, -List.length_flatMap, e2]
            · have z := (q5.low (lo' := x + 1) (by omega)).up (x' := x3) (m' := m2) (by omega) (Nat.le_refl _) (fun j h1 h2 => p3 j (by omega) (by omega))
              have z2 := (z.app (p5.low (by omega))).ms (esz := 3) (n := 2) (m' := (m2.set x3 (some (.cells (cs ++ cs2) false))).set x (some (.cells [.i .i64 4, .i .i64 0, .ms x3 0 2 3] false))) (x' := x3 + 3) (a := x3) (ro := false) (cs := cs ++ cs2) (by simp +contextual (disch := omega) [Nat.add_assoc, Int.add_assoc, if_pos, if_neg, -Int.not_lt, -Int.not_le, -Nat.not_lt, -Nat.not_le, -List.length_flatMap]) (by simp +contextual (disch := omega) [Nat.add_assoc, Int.add_assoc, if_pos, if_neg, -Int.not_lt, -Int.not_le, -Nat.not_lt, -Nat.not_le, -List.length_flatMap]) (by omega) (by omega) (by omega) (by simp)
              have z3 := (FzAt.fr (m := _) (lo := x + 1) (x := x3 + 3) (k := d + 1 + 2) (cs := [.i .i64 4, .i .i64 0]) (by simp)).app z2
              rw [cL_at]
              simpa [sV] using z3.low (lo' := x) (by omega)
end Pi


set_option linter.unusedSimpArgs false
set_option linter.unusedVariables false
namespace Pi
/-- A level that is made, by numbers. -/
def madeS (l : List Nat) (p q : Nat) : L := (mkS l p q 5 0).1
theorem law02_Made.a (l : List Nat) (hb : Byt l) (p q : Nat) (hp : p ≤ 256) (hq : q ≤ 256) : Ans ctx law02_Made.n [sV cU l, .i .i64 p, .i .i64 q] (.ag (cL (madeS l p q))) := by
  refine ans law02_Made.f ?_
  simp +contextual (disch := omega) [Nat.add_assoc, Int.add_assoc, if_pos, if_neg, -Int.not_lt, -Int.not_le, -Nat.not_lt, -Nat.not_le, -List.length_flatMap, law02_Made.c]
  refine made_w l hb p q hp hq 3 4 (by omega) 0 (by omega) (by omega) (by simp +contextual (disch := omega) [Nat.add_assoc, Int.add_assoc, if_pos, if_neg, -Int.not_lt, -Int.not_le, -Nat.not_lt, -Nat.not_le, -List.length_flatMap]) ?_
  intro cs m' x' h1 h2 h3 h4 h5
  have h0 := h3 0 (by omega) (by omega)
  simp (disch := omega) at h0
  have ht : cs.take 3 = cs := List.take_of_length_le (by omega)
  have hd : cs.drop 3 = [] := List.drop_of_length_le (by omega)
  obtain ⟨ids, q⟩ := (h5.up (m' := m'.set 0 (some (.cells cs false))) (Nat.le_refl _) (Nat.le_refl _) (by simp +contextual (disch := omega) [Nat.add_assoc, Int.add_assoc, if_pos, if_neg, -Int.not_lt, -Int.not_le, -Nat.not_lt, -Nat.not_le, -List.length_flatMap])).at 24 (by omega)
  simp +contextual (disch := omega) [Nat.add_assoc, Int.add_assoc, if_pos, if_neg, -Int.not_lt, -Int.not_le, -Nat.not_lt, -Nat.not_le, -List.length_flatMap, h0, h1, ht, hd, q, madeS]

theorem mkS_ok (l : List Nat) (p q : Nat) (hp : p ≤ 256) (hq : q ≤ 256) (d : Nat) : ∀ i, (mkS l p q d i).1.Ok := by
  have lf : ∀ (k : Int) (n : Nat), 0 ≤ k ∧ k ≤ 10 → n ≤ 256 → (L.mk k n []).Ok := fun k n h1 h2 => .mk (by simp) (by omega) (by omega) (by simp)
  have pk : ∀ i n, n ≤ 256 → pickS l i n ≤ 256 ∨ n = 0 := fun i n hn => by
    rcases Nat.eq_zero_or_pos n with h | h
    · exact .inr h
    · have := pickS_lt l i n h; omega
  induction d with
  | zero =>
    intro i
    simp only [mkS]
    split
    · rename_i h; rcases pk (i + 1) p hp with h1 | h1
      · exact lf _ _ (by omega) h1
      · omega
    · split
      · rename_i h; rcases pk (i + 1) q hq with h1 | h1
        · exact lf _ _ (by omega) h1
        · omega
      · exact lf 1 0 (by omega) (by omega)
  | succ d ih =>
    intro i
    rw [mkS_eq]
    simp only
    generalize (if d = 0 then pickS l i 10 % 4 else pickS l i 10) = k
    split
    · rename_i h; rcases pk (i + 1) p hp with h1 | h1
      · exact lf _ _ (by omega) h1
      · omega
    · split
      · rename_i h; rcases pk (i + 1) q hq with h1 | h1
        · exact lf _ _ (by omega) h1
        · omega
      · split
        · exact lf 1 0 (by omega) (by omega)
        · split
          · exact .mk (by simp) (by simp) (by simp) (by simpa using ih _)
          · split
            · exact .mk (by simp) (by simp) (by simp) (by simpa using ⟨ih _, ih _⟩)
            · exact .mk (by simp) (by simp) (by simp) (by simpa using ⟨ih _, ih _⟩)
theorem madeS_ok (l : List Nat) (p q : Nat) (hp : p ≤ 256) (hq : q ≤ 256) : (madeS l p q).Ok := mkS_ok l p q hp hq 5 0

end Pi


set_option linter.unusedSimpArgs false
set_option linter.unusedVariables false
namespace Pi
/-! Made levels are right; what is more. -/
end Pi


set_option linter.unusedSimpArgs false
set_option linter.unusedVariables false
namespace Pi
end Pi


set_option linter.unusedSimpArgs false
set_option linter.unusedVariables false
namespace Pi
theorem law03_LcodePut.a (l : L) (ok : l.Ok) (k : List Nat) (hk : k.length ≤ 9223372036854775807) (hb0 : Byt k) : Ans ctx law03_LcodePut.n [.ag (cL l), sV cU k] (.b true) := by
  refine ans law03_LcodePut.f ?_
  have hN := ref02_Nodes.a l ok 301 (by omega) (by omega)
  by_cases h : nodesS l 301 > 300
  · simp +contextual (disch := omega) [Nat.add_assoc, Int.add_assoc, if_pos, if_neg, -Int.not_lt, -Int.not_le, -Nat.not_lt, -Nat.not_le, -List.length_flatMap, law03_LcodePut.c, ansK hN, h]
  have ok2 := madeS_ok k 5 10 (by omega) (by omega)
  have hM : Ans ctx law02_Made.n [sV cU k, .i .i64 5, .i .i64 10] (.ag (cL (madeS k 5 10))) := law02_Made.a k hb0 5 10 (by omega) (by omega)
  have hl1 := cL_len l
  have hl2 := cL_len (madeS k 5 10)
  have p1 := lcode_Put.a l ok (fun h => by have := RightS_len h; omega)
  have p2 := ref03_Put.a l ok
  have p3 := lcode_Put.a _ ok2 (fun h => by have := RightS_len h; omega)
  have p4 := ref03_Put.a _ ok2
  generalize madeS k 5 10 = k2 at *
  have t1 : (cL l ++ cL k2).take 3 = cL l := by rw [List.take_append_of_le_length (by omega), List.take_of_length_le (by omega)]
  have t2 : (cL l ++ cL k2).drop 3 = cL k2 := List.drop_left' hl1
  have t3 : (cL k2).take 3 = cL k2 := List.take_of_length_le (by omega)
  have t4 : (cL l).take 3 = cL l := List.take_of_length_le (by omega)
  simp +contextual (disch := omega) [Nat.add_assoc, Int.add_assoc, if_pos, if_neg, -Int.not_lt, -Int.not_le, -Nat.not_lt, -Nat.not_le, -List.length_flatMap, law03_LcodePut.c, ansK hN, h, ansK hM]
  refine un_w ?_
  obtain ⟨o1, z1, q1, q2⟩ : ∃ o z, Ans ctx lcode_Put.n [.ag (cL l)] (.tu [.s (bs o), .i .i64 z]) ∧ Ans ctx ref03_Put.n [.ag (cL l)] (.tu [.s (bs o), .i .i64 z]) := by
    by_cases r1 : RightS l 5 10 = true
    · rw [if_pos r1] at p1 p2; exact ⟨_, _, p1, p2⟩
    · rw [if_neg r1] at p1 p2; exact ⟨_, _, p1, p2⟩
  obtain ⟨o2, z2, q3, q4⟩ : ∃ o z, Ans ctx lcode_Put.n [.ag (cL k2)] (.tu [.s (bs o), .i .i64 z]) ∧ Ans ctx ref03_Put.n [.ag (cL k2)] (.tu [.s (bs o), .i .i64 z]) := by
    by_cases r1 : RightS k2 5 10 = true
    · rw [if_pos r1] at p3 p4; exact ⟨_, _, p3, p4⟩
    · rw [if_neg r1] at p3 p4; exact ⟨_, _, p3, p4⟩
  simp +contextual (disch := omega) [Nat.add_assoc, Int.add_assoc, if_pos, if_neg, -Int.not_lt, -Int.not_le, -Nat.not_lt, -Nat.not_le, -List.length_flatMap, law03_LcodePut.b1, t1, t4, ansK q1, ansK q2]
  refine un_w ?_
  simp +contextual (disch := omega) [Nat.add_assoc, Int.add_assoc, if_pos, if_neg, -Int.not_lt, -Int.not_le, -Nat.not_lt, -Nat.not_le, -List.length_flatMap, law03_LcodePut.b1, t2, t3, ansK q3, ansK q4]
  refine un_w ?_
  simp +contextual (disch := omega) [Nat.add_assoc, Int.add_assoc, if_pos, if_neg, -Int.not_lt, -Int.not_le, -Nat.not_lt, -Nat.not_le, -List.length_flatMap, law03_LcodePut.b1]
end Pi

