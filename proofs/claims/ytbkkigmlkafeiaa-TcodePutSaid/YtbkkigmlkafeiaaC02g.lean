/- Contracts: levels as bytes (layer 3): what is written is what the document says. -/
import Derived.Test.YtbkkigmlkafeiaaC03f
import Derived.Test.YtbkkigmlkafeiaaEnc
set_option linter.unusedSimpArgs false
set_option linter.unusedVariables false
namespace Pi
/-- What a maker picks. -/
def pickS (l : List Nat) (i n : Nat) : Nat := (l[i]?.getD 0) % n
theorem pickS_lt (l : List Nat) (i n : Nat) (h : 0 < n) : pickS l i n < n := Nat.mod_lt _ h
theorem pick_w {m : Sto} {x a : Nat} {l : List Nat} {i n : Nat} {K : CR → Sto → Nat → Prop} (hm : m a = some (.cells [sV cU l, .i .i64 i] false)) (hb : Byt l) (hi : i ≤ 1000000000) (hn : 0 < n ∧ n ≤ 256)
    (hK : ∀ x', x ≤ x' → K (.ret (.i .i64 (pickS l i n : Nat))) (m.set a (some (.cells [sV cU l, .i .i64 ((i + 1 : Nat) : Int)] false))) x') :
    wpCall ctx (.fn (.func law02_Maker_Pick.n) [] []) [.p a 0, .i .i64 n] m x K := by
  refine open_w law02_Maker_Pick.f rfl (.inl rfl) ?_
  by_cases h : i < l.length
  · have hbi := hb.at h
    have hp : ((pickS l i n : Nat) : Int) = (l[i] : Int) % n := by simp [pickS, h]
    simp +contextual (disch := omega) [Nat.add_assoc, Int.add_assoc, if_pos, if_neg, -Int.not_lt, -Int.not_le, -Nat.not_lt, -Nat.not_le, -List.length_flatMap, law02_Maker_Pick.c, hm, h, Int.tmod_eq_emod_of_nonneg]
    have := hK (x + 34) (by omega)
    rw [hp] at this
    simpa using this
  · have hp : pickS l i n = 0 := by simp [pickS, List.getElem?_eq_none (by omega : l.length ≤ i)]
    rw [hp] at hK
    simp +contextual (disch := omega) [Nat.add_assoc, Int.add_assoc, if_pos, if_neg, -Int.not_lt, -Int.not_le, -Nat.not_lt, -Nat.not_le, -List.length_flatMap, law02_Maker_Pick.c, hm]
    have := hK (x + 20) (by omega)
    simpa using this

/-- What a maker makes: a level, and how many it has picked then. -/
def mkS (l : List Nat) (p q : Nat) : Nat → Nat → L × Nat
  | 0, i =>
    let k := pickS l i 10 % 4
    if (k = 1 ∧ 0 < p) ∨ (k = 2 ∧ 0 < p ∧ q = 0) then (.mk 5 (pickS l (i + 1) p : Nat) [], i + 2)
    else if (k = 2 ∨ k = 3) ∧ 0 < q then (.mk 6 (pickS l (i + 1) q : Nat) [], i + 2)
    else (.mk 1 0 [], i + 1)
  | d + 1, i =>
    let k := if d = 0 then pickS l i 10 % 4 else pickS l i 10
    if (k = 1 ∧ 0 < p) ∨ (k = 2 ∧ 0 < p ∧ q = 0) then (.mk 5 (pickS l (i + 1) p : Nat) [], i + 2)
    else if (k = 2 ∨ k = 3) ∧ 0 < q then (.mk 6 (pickS l (i + 1) q : Nat) [], i + 2)
    else if k < 4 then (.mk 1 0 [], i + 1)
    else
      let r := mkS l p q d (i + 1)
      let s := mkS l p q d r.2
      if k < 6 then (.mk 2 0 [r.1], r.2) else if k < 8 then (.mk 3 0 [r.1, s.1], s.2) else (.mk 4 0 [r.1, s.1], s.2)
theorem mkS_bd (l : List Nat) (p q d : Nat) : ∀ i, i ≤ (mkS l p q d i).2 ∧ (mkS l p q d i).2 ≤ i + 4 ^ (d + 1) := by
  induction d with
  | zero =>
    intro i
    simp only [mkS]
    split
    · simp
    · split <;> simp
  | succ d ih =>
    intro i
    have h0 : 4 ≤ 4 ^ (d + 1) := by
      calc 4 = 4 ^ 1 := rfl
        _ ≤ 4 ^ (d + 1) := Nat.pow_le_pow_right (by omega) (by omega)
    have h1 := ih (i + 1)
    have h2 := ih (mkS l p q d (i + 1)).2
    have h3 : 4 ^ (d + 1 + 1) = 4 * 4 ^ (d + 1) := by rw [Nat.pow_succ, Nat.mul_comm]
    simp only [mkS]
    generalize hk : (if d = 0 then pickS l i 10 % 4 else pickS l i 10) = k
    split
    · simp only; omega
    · split
      · simp only; omega
      · split
        · simp only; omega
        · split
          · simp only; omega
          · split <;> (simp only; omega)

theorem mkS_eq (l : List Nat) (p q d i : Nat) : mkS l p q (d + 1) i =
    (let k := if d = 0 then pickS l i 10 % 4 else pickS l i 10
    if (k = 1 ∧ 0 < p) ∨ (k = 2 ∧ 0 < p ∧ q = 0) then (.mk 5 (pickS l (i + 1) p : Nat) [], i + 2)
    else if (k = 2 ∨ k = 3) ∧ 0 < q then (.mk 6 (pickS l (i + 1) q : Nat) [], i + 2)
    else if k < 4 then (.mk 1 0 [], i + 1)
    else
      let r := mkS l p q d (i + 1)
      let s := mkS l p q d r.2
      if k < 6 then (.mk 2 0 [r.1], r.2) else if k < 8 then (.mk 3 0 [r.1, s.1], s.2) else (.mk 4 0 [r.1, s.1], s.2)) := rfl
/-- What is asked of what stands behind a maker's call. -/
def MadeK (l : List Nat) (a x d : Nat) (m : Sto) (r : L × Nat) (K : CR → Sto → Nat → Prop) : Prop :=
  ∀ cs m' x', cs.length = 3 → m' a = some (.cells [sV cU l, .i .i64 (r.2 : Nat)] false) → (∀ j, j < x → j ≠ a → m' j = m j) → x ≤ x' → FzAt m' x x' d cs (cL r.1) → K (.ret (.ag cs)) m' x'

set_option maxHeartbeats 4000000 in
theorem made_w (l : List Nat) (hb : Byt l) (p q : Nat) (hp : p ≤ 256) (hq : q ≤ 256) (a : Nat) : ∀ (d : Nat), d ≤ 10 → ∀ (i : Nat) {m : Sto} {x : Nat} {K : CR → Sto → Nat → Prop}, i + 4 ^ (d + 2) ≤ 1000000000 → a < x → m a = some (.cells [sV cU l, .i .i64 i] false) →
    MadeK l a x (d + 2) m (mkS l p q (d + 1) i) K →
    wpCall ctx (.fn (.func law02_Maker_Level.n) [] []) [.p a 0, .i .i64 p, .i .i64 q, .i .i64 ((d : Int) + 1)] m x K := by
  intro d
  induction d using Nat.strongRecOn with
  | ind d ih =>
  intro hd i m x K hi hax hm hK
  have h4 : 16 ≤ 4 ^ (d + 2) := by
    calc 16 = 4 ^ 2 := rfl
      _ ≤ 4 ^ (d + 2) := Nat.pow_le_pow_right (by omega) (by omega)
  refine open_w law02_Maker_Level.f rfl (.inl rfl) ?_
  simp +contextual (disch := omega) [Nat.add_assoc, Int.add_assoc, if_pos, if_neg, -Int.not_lt, -Int.not_le, -Nat.not_lt, -Nat.not_le, -List.length_flatMap, law02_Maker_Level.c]
  refine pick_w (l := l) (i := i) (n := 10) (by simp +contextual (disch := omega) [Nat.add_assoc, Int.add_assoc, if_pos, if_neg, -Int.not_lt, -Int.not_le, -Nat.not_lt, -Nat.not_le, -List.length_flatMap, hm]) hb (by omega) (by omega) ?_
  intro x1 hx1
  have hk := pickS_lt l i 10 (by omega)
  rw [mkS_eq] at hK
  generalize pickS l i 10 = k at hk hK
  have hk4 : ((k : Int)).tmod 4 = ((k % 4 : Nat) : Int) := by rw [Int.tmod_eq_emod_of_nonneg (by omega)]; omega
  generalize hkk : (if d = 0 then k % 4 else k) = kk at hK
  simp only at hK
  have hkc : (d = 0 ∧ (k : Int).tmod 4 = kk ∧ kk < 4) ∨ (0 < d ∧ (k : Int) = kk ∧ kk < 10) := by
    rcases Nat.eq_zero_or_pos d with h0 | h0
    · rw [if_pos h0] at hkk
      exact .inl ⟨h0, by rw [hk4, hkk], by omega⟩
    · rw [if_neg (by omega)] at hkk
      exact .inr ⟨h0, by omega, by omega⟩
  clear hk4 hkk
  have leaf : ∀ (m' : Sto) (x' : Nat) (u v : Int), FzAt m' x x' (d + 2) [.i .i64 u, .i .i64 v, .ns] (cL (.mk u v [])) := fun m' x' u v m2 _ dd _ => ⟨[], by simp⟩
  by_cases hA : (kk = 1 ∧ 0 < p) ∨ (kk = 2 ∧ 0 < p ∧ q = 0)
  · rw [if_pos hA] at hK
    have fin : ∀ (m' : Sto) (x' : Nat), x < x' → m' x = some (.cells [.i .i64 5, .i .i64 (pickS l (i + 1) p : Nat), .ns] false) → m' a = some (.cells [sV cU l, .i .i64 ((i + 2 : Nat) : Int)] false) → (∀ j, j < x → j ≠ a → m' j = m j) → K (.ret (.ag [.i .i64 5, .i .i64 (pickS l (i + 1) p : Nat), .ns])) m' x' :=
      fun m' x' h1 h2 h3 h4 => hK _ m' x' rfl h3 h4 (by omega) (leaf _ _ _ _)
    rcases hA with ⟨hA1, hA2⟩ | ⟨hA1, hA2, hA3⟩ <;> rcases hkc with ⟨h0, hk4, h5⟩ | ⟨h0, hk4, h5⟩
    all_goals (simp +contextual (disch := omega) [Nat.add_assoc, Int.add_assoc, if_pos, if_neg, -Int.not_lt, -Int.not_le, -Nat.not_lt, -Nat.not_le, -List.length_flatMap, hm, hk4])
    all_goals refine pick_w (l := l) (i := i + 1) (n := p) (by simp +contextual (disch := omega) [Nat.add_assoc, Int.add_assoc, if_pos, if_neg, -Int.not_lt, -Int.not_le, -Nat.not_lt, -Nat.not_le, -List.length_flatMap]) hb (by omega) (by omega) ?_
    all_goals intro x2 hx2
    all_goals (simp +contextual (disch := omega) [Nat.add_assoc, Int.add_assoc, if_pos, if_neg, -Int.not_lt, -Int.not_le, -Nat.not_lt, -Nat.not_le, -List.length_flatMap])
    all_goals refine fin _ _ (by omega) (by simp +contextual (disch := omega) [Nat.add_assoc, Int.add_assoc, if_pos, if_neg, -Int.not_lt, -Int.not_le, -Nat.not_lt, -Nat.not_le, -List.length_flatMap]) (by simp +contextual (disch := omega) [Nat.add_assoc, Int.add_assoc, if_pos, if_neg, -Int.not_lt, -Int.not_le, -Nat.not_lt, -Nat.not_le, -List.length_flatMap]) (by simp +contextual (disch := omega) [Nat.add_assoc, Int.add_assoc, if_pos, if_neg, -Int.not_lt, -Int.not_le, -Nat.not_lt, -Nat.not_le, -List.length_flatMap])
  · rw [if_neg hA] at hK
    by_cases hB : (kk = 2 ∨ kk = 3) ∧ 0 < q
    · rw [if_pos hB] at hK
      have fin : ∀ (m' : Sto) (x' : Nat), x < x' → m' x = some (.cells [.i .i64 6, .i .i64 (pickS l (i + 1) q : Nat), .ns] false) → m' a = some (.cells [sV cU l, .i .i64 ((i + 2 : Nat) : Int)] false) → (∀ j, j < x → j ≠ a → m' j = m j) → K (.ret (.ag [.i .i64 6, .i .i64 (pickS l (i + 1) q : Nat), .ns])) m' x' :=
        fun m' x' h1 h2 h3 h4 => hK _ m' x' rfl h3 h4 (by omega) (leaf _ _ _ _)
      obtain ⟨hB1, hB2⟩ := hB
      rcases hB1 with hB1 | hB1 <;> rcases Nat.eq_zero_or_pos p with h6 | h6 <;> rcases hkc with ⟨h0, hk4, h5⟩ | ⟨h0, hk4, h5⟩
      all_goals (simp +contextual (disch := omega) [Nat.add_assoc, Int.add_assoc, if_pos, if_neg, -Int.not_lt, -Int.not_le, -Nat.not_lt, -Nat.not_le, -List.length_flatMap, hm, hk4])
      all_goals refine pick_w (l := l) (i := i + 1) (n := q) (by simp +contextual (disch := omega) [Nat.add_assoc, Int.add_assoc, if_pos, if_neg, -Int.not_lt, -Int.not_le, -Nat.not_lt, -Nat.not_le, -List.length_flatMap]) hb (by omega) (by omega) ?_
      all_goals intro x2 hx2
      all_goals (simp +contextual (disch := omega) [Nat.add_assoc, Int.add_assoc, if_pos, if_neg, -Int.not_lt, -Int.not_le, -Nat.not_lt, -Nat.not_le, -List.length_flatMap])
      all_goals refine fin _ _ (by omega) (by simp +contextual (disch := omega) [Nat.add_assoc, Int.add_assoc, if_pos, if_neg, -Int.not_lt, -Int.not_le, -Nat.not_lt, -Nat.not_le, -List.length_flatMap]) (by simp +contextual (disch := omega) [Nat.add_assoc, Int.add_assoc, if_pos, if_neg, -Int.not_lt, -Int.not_le, -Nat.not_lt, -Nat.not_le, -List.length_flatMap]) (by simp +contextual (disch := omega) [Nat.add_assoc, Int.add_assoc, if_pos, if_neg, -Int.not_lt, -Int.not_le, -Nat.not_lt, -Nat.not_le, -List.length_flatMap])
    · rw [if_neg hB] at hK
      by_cases hC : kk < 4
      · rw [if_pos hC] at hK
        have fin : ∀ (m' : Sto) (x' : Nat), x < x' → m' a = some (.cells [sV cU l, .i .i64 ((i + 1 : Nat) : Int)] false) → (∀ j, j < x → j ≠ a → m' j = m j) → K (.ret (.ag [.i .i64 1, .i .i64 0, .ns])) m' x' :=
          fun m' x' h1 h3 h4 => hK _ m' x' rfl h3 h4 (by omega) (leaf _ _ _ _)
        rcases (by omega : kk = 0 ∨ kk = 1 ∨ kk = 2 ∨ kk = 3) with hC1 | hC1 | hC1 | hC1 <;> rcases hkc with ⟨h0, hk4, h5⟩ | ⟨h0, hk4, h5⟩
        all_goals (simp +contextual (disch := omega) [Nat.add_assoc, Int.add_assoc, if_pos, if_neg, -Int.not_lt, -Int.not_le, -Nat.not_lt, -Nat.not_le, -List.length_flatMap, hm, hk4])
        all_goals refine fin _ _ (by omega) (by simp +contextual (disch := omega) [Nat.add_assoc, Int.add_assoc, if_pos, if_neg, -Int.not_lt, -Int.not_le, -Nat.not_lt, -Nat.not_le, -List.length_flatMap]) (by simp +contextual (disch := omega) [Nat.add_assoc, Int.add_assoc, if_pos, if_neg, -Int.not_lt, -Int.not_le, -Nat.not_lt, -Nat.not_le, -List.length_flatMap])
      · rw [if_neg hC] at hK
        rcases hkc with ⟨h0, hk4, h5⟩ | ⟨h0, hk4, h5⟩
        · omega
        obtain ⟨d, rfl⟩ : ∃ e, d = e + 1 := ⟨d - 1, by omega⟩
        have h44 : 4 ^ (d + 1 + 2) = 4 * 4 ^ (d + 2) := by rw [Nat.pow_succ, Nat.mul_comm]
        have hdd : (d : Int) + 2 - 1 = d + 1 := by omega
        by_cases hD : kk < 6
        · rw [if_pos hD] at hK
          simp +contextual (disch := omega) [Nat.add_assoc, Int.add_assoc, if_pos, if_neg, -Int.not_lt, -Int.not_le, -Nat.not_lt, -Nat.not_le, -List.length_flatMap, hm, hk4, hdd]
          refine ih d (by omega) (by omega) (i + 1) (by omega) (by omega) (by simp +contextual (disch := omega) [Nat.add_assoc, Int.add_assoc, if_pos, if_neg, -Int.not_lt, -Int.not_le, -Nat.not_lt, -Nat.not_le, -List.length_flatMap]) ?_
          intro cs m1 x2 q1 q2 q3 q4 q5
          have ht : cs.take 3 = cs := List.take_of_length_le (by omega)
          have q3x := q3 x (by omega) (by omega)
          simp (disch := omega) at q3x
          generalize mkS l p q (d + 1) (i + 1) = r1 at hK q2 q5
          simp +contextual (disch := omega) [Nat.add_assoc, Int.add_assoc, if_pos, if_neg, -Int.not_lt, -Int.not_le, -Nat.not_lt, -Nat.not_le, -List.length_flatMap, q1, q3x, ht]
          refine hK _ _ _ rfl (by simp +contextual (disch := omega) [Nat.add_assoc, Int.add_assoc, if_pos, if_neg, -Int.not_lt, -Int.not_le, -Nat.not_lt, -Nat.not_le, -List.length_flatMap, q2]) (fun j h1 h2 => ?_) (by omega) ?_
          · have e2 := q3 j (by omega) h2
            simp +contextual (disch := omega) [Nat.add_assoc, Int.add_assoc, if_pos, if_neg, -Int.not_lt, -Int.not_le, -Nat.not_lt, -Nat.not_le, -List.length_flatMap, e2]
          · have z2 := (q5.low (lo' := x + 1) (by omega)).ms (esz := 3) (n := 1) (m' := (m1.set x2 (some (.cells cs false))).set x (some (.cells [.i .i64 2, .i .i64 0, .ms x2 0 1 3] false))) (x' := x2 + 3) (a := x2) (ro := false) (cs := cs) (by simp +contextual (disch := omega) [Nat.add_assoc, Int.add_assoc, if_pos, if_neg, -Int.not_lt, -Int.not_le, -Nat.not_lt, -Nat.not_le, -List.length_flatMap]) (by simp +contextual (disch := omega) [Nat.add_assoc, Int.add_assoc, if_pos, if_neg, -Int.not_lt, -Int.not_le, -Nat.not_lt, -Nat.not_le, -List.length_flatMap]) (by omega) (by omega) (by omega) (by simp)
            have z3 := (FzAt.fr (m := _) (lo := x + 1) (x := x2 + 3) (k := d + 1 + 2) (cs := [.i .i64 2, .i .i64 0]) (by simp)).app z2
            rw [cL_at]
            simpa [sV] using z3.low (lo' := x) (by omega)
        · rw [if_neg hD] at hK
          by_cases hE : kk < 8
          · rw [if_pos hE] at hK
            simp +contextual (disch := omega) [Nat.add_assoc, Int.add_assoc, if_pos, if_neg, -Int.not_lt, -Int.not_le, -Nat.not_lt, -Nat.not_le, -List.length_flatMap, hm, hk4, hdd]
            refine ih d (by omega) (by omega) (i + 1) (by omega) (by omega) (by simp +contextual (disch := omega) [Nat.add_assoc, Int.add_assoc, if_pos, if_neg, -Int.not_lt, -Int.not_le, -Nat.not_lt, -Nat.not_le, -List.length_flatMap]) ?_
            intro cs m1 x2 q1 q2 q3 q4 q5
            have ht : cs.take 3 = cs := List.take_of_length_le (by omega)
            simp +contextual (disch := omega) [Nat.add_assoc, Int.add_assoc, if_pos, if_neg, -Int.not_lt, -Int.not_le, -Nat.not_lt, -Nat.not_le, -List.length_flatMap, q1, hdd]
            have hb1 := mkS_bd l p q (d + 1) (i + 1)
            have hb2 : 4 ^ (d + 1 + 1) = 4 ^ (d + 2) := rfl
            have hdr : (cs ++ [V.i .i64 0, .i .i64 0, .ns]).drop 6 = [] := List.drop_of_length_le (by simp; omega)
            generalize mkS l p q (d + 1) (i + 1) = r1 at hK q2 q5 hb1
            refine ih d (by omega) (by omega) r1.2 (by omega) (by omega) q2 ?_
            intro cs2 m2 x3 p1 p2 p3 p4 p5
            have ht2 : cs2.take 3 = cs2 := List.take_of_length_le (by omega)
            have e1 := (p3 x (by omega) (by omega)).trans (q3 x (by omega) (by omega))
            simp (disch := omega) at e1
            generalize mkS l p q (d + 1) r1.2 = r2 at hK p2 p5
            simp +contextual (disch := omega) [Nat.add_assoc, Int.add_assoc, if_pos, if_neg, -Int.not_lt, -Int.not_le, -Nat.not_lt, -Nat.not_le, -List.length_flatMap, q1, p1, ht, ht2, e1, hdr]
            refine hK _ _ _ rfl (by simp +contextual (disch := omega) [Nat.add_assoc, Int.add_assoc, if_pos, if_neg, -Int.not_lt, -Int.not_le, -Nat.not_lt, -Nat.not_le, -List.length_flatMap, p2]) (fun j h1 h2 => ?_) (by omega) ?_
            · have e2 := (p3 j (by omega) h2).trans (q3 j (by omega) h2)
              simp +contextual (disch := omega) [Nat.add_assoc, Int.add_assoc, if_pos, if_neg, -Int.not_lt, -Int.not_le, -Nat.not_lt, -Nat.not_le, -List.length_flatMap, e2]
            · have z := (q5.low (lo' := x + 1) (by omega)).up (x' := x3) (m' := m2) (by omega) (Nat.le_refl _) (fun j h1 h2 => p3 j (by omega) (by omega))
              have z2 := (z.app (p5.low (by omega))).ms (esz := 3) (n := 2) (m' := (m2.set x3 (some (.cells (cs ++ cs2) false))).set x (some (.cells [.i .i64 3, .i .i64 0, .ms x3 0 2 3] false))) (x' := x3 + 3) (a := x3) (ro := false) (cs := cs ++ cs2) (by simp +contextual (disch := omega) [Nat.add_assoc, Int.add_assoc, if_pos, if_neg, -Int.not_lt, -Int.not_le, -Nat.not_lt, -Nat.not_le, -List.length_flatMap]) (by simp +contextual (disch := omega) [Nat.add_assoc, Int.add_assoc, if_pos, if_neg, -Int.not_lt, -Int.not_le, -Nat.not_lt, -Nat.not_le, -List.length_flatMap]) (by omega) (by omega) (by omega) (by simp)
              have z3 := (FzAt.fr (m := _) (lo := x + 1) (x := x3 + 3) (k := d + 1 + 2) (cs := [.i .i64 3, .i .i64 0]) (by simp)).app z2
              rw [cL_at]
              simpa [sV] using z3.low (lo' := x) (by omega)
          · rw [if_neg hE] at hK
            simp +contextual (disch := omega) [Nat.add_assoc, Int.add_assoc, if_pos, if_neg, -Int.not_lt, -Int.not_le, -Nat.not_lt, -Nat.not_le, -List.length_flatMap, hm, hk4, hdd]
            refine ih d (by omega) (by omega) (i + 1) (by omega) (by omega) (by simp +contextual (disch := omega) [Nat.add_assoc, Int.add_assoc, if_pos, if_neg, -Int.not_lt, -Int.not_le, -Nat.not_lt, -Nat.not_le, -List.length_flatMap]) ?_
            intro cs m1 x2 q1 q2 q3 q4 q5
            have ht : cs.take 3 = cs := List.take_of_length_le (by omega)
            simp +contextual (disch := omega) [Nat.add_assoc, Int.add_assoc, if_pos, if_neg, -Int.not_lt, -Int.not_le, -Nat.not_lt, -Nat.not_le, -List.length_flatMap, q1, hdd]
            have hb1 := mkS_bd l p q (d + 1) (i + 1)
            have hb2 : 4 ^ (d + 1 + 1) = 4 ^ (d + 2) := rfl
            have hdr : (cs ++ [V.i .i64 0, .i .i64 0, .ns]).drop 6 = [] := List.drop_of_length_le (by simp; omega)
            generalize mkS l p q (d + 1) (i + 1) = r1 at hK q2 q5 hb1
            refine ih d (by omega) (by omega) r1.2 (by omega) (by omega) q2 ?_
            intro cs2 m2 x3 p1 p2 p3 p4 p5
            have ht2 : cs2.take 3 = cs2 := List.take_of_length_le (by omega)
            have e1 := (p3 x (by omega) (by omega)).trans (q3 x (by omega) (by omega))
            simp (disch := omega) at e1
            generalize mkS l p q (d + 1) r1.2 = r2 at hK p2 p5
            simp +contextual (disch := omega) [Nat.add_assoc, Int.add_assoc, if_pos, if_neg, -Int.not_lt, -Int.not_le, -Nat.not_lt, -Nat.not_le, -List.length_flatMap, q1, p1, ht, ht2, e1, hdr]
            refine hK _ _ _ rfl (by simp +contextual (disch := omega) [Nat.add_assoc, Int.add_assoc, if_pos, if_neg, -Int.not_lt, -Int.not_le, -Nat.not_lt, -Nat.not_le, -List.length_flatMap, p2]) (fun j h1 h2 => ?_) (by omega) ?_
            · have e2 := (p3 j (by omega) h2).trans (q3 j (by omega) h2)
              simp +contextual (disch := omega) [Nat.add_assoc, Int.add_assoc, if_pos, if_neg, -Int.not_lt, -Int.not_le, -Nat.not_lt, -Nat.not_le, -List.length_flatMap, e2]
            · have z := (q5.low (lo' := x + 1) (by omega)).up (x' := x3) (m' := m2) (by omega) (Nat.le_refl _) (fun j h1 h2 => p3 j (by omega) (by omega))
              have z2 := (z.app (p5.low (by omega))).ms (esz := 3) (n := 2) (m' := (m2.set x3 (some (.cells (cs ++ cs2) false))).set x (some (.cells [.i .i64 4, .i .i64 0, .ms x3 0 2 3] false))) (x' := x3 + 3) (a := x3) (ro := false) (cs := cs ++ cs2) (by simp +contextual (disch := omega) [Nat.add_assoc, Int.add_assoc, if_pos, if_neg, -Int.not_lt, -Int.not_le, -Nat.not_lt, -Nat.not_le, -List.length_flatMap]) (by simp +contextual (disch := omega) [Nat.add_assoc, Int.add_assoc, if_pos, if_neg, -Int.not_lt, -Int.not_le, -Nat.not_lt, -Nat.not_le, -List.length_flatMap]) (by omega) (by omega) (by omega) (by simp)
              have z3 := (FzAt.fr (m := _) (lo := x + 1) (x := x3 + 3) (k := d + 1 + 2) (cs := [.i .i64 4, .i .i64 0]) (by simp)).app z2
              rw [cL_at]
              simpa [sV] using z3.low (lo' := x) (by omega)
end Pi


set_option linter.unusedSimpArgs false
set_option linter.unusedVariables false
namespace Pi
theorem mkS_ok (l : List Nat) (p q : Nat) (hp : p ≤ 256) (hq : q ≤ 256) (d : Nat) : ∀ i, (mkS l p q d i).1.Ok := by
  have lf : ∀ (k : Int) (n : Nat), 0 ≤ k ∧ k ≤ 10 → n ≤ 256 → (L.mk k n []).Ok := fun k n h1 h2 => .mk (by simp) (by omega) (by omega) (by simp)
  have pk : ∀ i n, n ≤ 256 → pickS l i n ≤ 256 ∨ n = 0 := fun i n hn => by
    rcases Nat.eq_zero_or_pos n with h | h
    · exact .inr h
    · have := pickS_lt l i n h; omega
  induction d with
  | zero =>
    intro i
    simp only [mkS]
    split
    · rename_i h; rcases pk (i + 1) p hp with h1 | h1
      · exact lf _ _ (by omega) h1
      · omega
    · split
      · rename_i h; rcases pk (i + 1) q hq with h1 | h1
        · exact lf _ _ (by omega) h1
        · omega
      · exact lf 1 0 (by omega) (by omega)
  | succ d ih =>
    intro i
    rw [mkS_eq]
    simp only
    generalize (if d = 0 then pickS l i 10 % 4 else pickS l i 10) = k
    split
    · rename_i h; rcases pk (i + 1) p hp with h1 | h1
      · exact lf _ _ (by omega) h1
      · omega
    · split
      · rename_i h; rcases pk (i + 1) q hq with h1 | h1
        · exact lf _ _ (by omega) h1
        · omega
      · split
        · exact lf 1 0 (by omega) (by omega)
        · split
          · exact .mk (by simp) (by simp) (by simp) (by simpa using ih _)
          · split
            · exact .mk (by simp) (by simp) (by simp) (by simpa using ⟨ih _, ih _⟩)
            · exact .mk (by simp) (by simp) (by simp) (by simpa using ⟨ih _, ih _⟩)
end Pi


set_option linter.unusedSimpArgs false
set_option linter.unusedVariables false
namespace Pi
/-! Made levels are right; what is more. -/
theorem mkS_right (l : List Nat) (p q : Nat) (d : Nat) : ∀ i, rightS (mkS l p q (d + 1) i).1 p q ((d : Int) + 1) = true := by
  induction d with
  | zero =>
    intro i
    rw [mkS_eq]
    simp only [if_true]
    have hk : pickS l i 10 % 4 < 4 := by omega
    generalize pickS l i 10 % 4 = k at hk
    split
    · rename_i h
      have := pickS_lt l (i + 1) p (by omega)
      rw [rightS_eq]
      simp [kidsS, namedS]
      omega
    · split
      · rename_i h
        have := pickS_lt l (i + 1) q (by omega)
        rw [rightS_eq]
        simp [kidsS, namedS]
        omega
      · rw [rightS_eq]
        simp [kidsS, namedS]
  | succ d ih =>
    intro i
    rw [mkS_eq]
    simp only
    generalize (if d + 1 = 0 then pickS l i 10 % 4 else pickS l i 10) = k
    have e1 : (((d + 1 : Nat) : Int) + 1 - 1) = (d : Int) + 1 := by omega
    split
    · rename_i h
      have := pickS_lt l (i + 1) p (by omega)
      rw [rightS_eq]
      simp [kidsS, namedS]
      omega
    · split
      · rename_i h
        have := pickS_lt l (i + 1) q (by omega)
        rw [rightS_eq]
        simp [kidsS, namedS]
        omega
      · split
        · rw [rightS_eq]
          simp [kidsS, namedS]
          omega
        · split
          · rw [rightS_eq, e1]
            simp [kidsS, namedS, ih]
            omega
          · split <;> (rw [rightS_eq, e1]; simp [kidsS, namedS, ih]; omega)
mutual
def szL (l : L) : Nat := match l with | .mk _ _ ks => 1 + szLs ks
def szLs (l : List L) : Nat := match l with | [] => 0 | a :: r => szL a + szLs r
end
theorem nodesL_le (ks : List L) (h : ∀ k ∈ ks, ∀ m, nodesS k m ≤ szL k) : ∀ (m n : Int), nodesL ks m n ≤ n + szLs ks := by
  induction ks with
  | nil => intro m n; simp [nodesL, szLs]
  | cons k r ih =>
    intro m n
    simp only [nodesL, szLs]
    have h1 := h k (by simp)
    have h2 := ih (fun k hk => h k (by simp [hk]))
    split
    · have := h1 (m - n)
      have := h2 m (n + nodesS k (m - n))
      omega
    · have := h2 m n
      omega
theorem nodesS_le (l : L) : ∀ m, nodesS l m ≤ szL l := by
  induction l using L.ind with
  | h l ih =>
    intro m
    cases l with
    | mk k n ks =>
      have := nodesL_le ks ih m 1
      simp only [nodesS, szL]
      omega
theorem mkS_sz (l : List Nat) (p q : Nat) (d : Nat) : ∀ i, szL (mkS l p q (d + 1) i).1 + 1 ≤ 2 ^ (d + 1) := by
  induction d with
  | zero =>
    intro i
    rw [mkS_eq]
    simp only [if_true]
    have hk : pickS l i 10 % 4 < 4 := by omega
    split
    · simp [szL, szLs]
    · split
      · simp [szL, szLs]
      · simp [szL, szLs]
  | succ d ih =>
    intro i
    have h0 : 2 ^ (d + 1 + 1) = 2 * 2 ^ (d + 1) := by rw [Nat.pow_succ, Nat.mul_comm]
    have h0' : 2 ^ (d + 2) = 2 * 2 ^ (d + 1) := h0
    have h1 : 2 ≤ 2 ^ (d + 1) := by
      calc 2 = 2 ^ 1 := rfl
        _ ≤ 2 ^ (d + 1) := Nat.pow_le_pow_right (by omega) (by omega)
    rw [mkS_eq]
    simp only
    generalize (if d + 1 = 0 then pickS l i 10 % 4 else pickS l i 10) = k
    have a1 := ih (i + 1)
    have a2 := ih (mkS l p q (d + 1) (i + 1)).2
    split
    · (try dsimp only); (try simp only [szL, szLs]); omega
    · split
      · (try dsimp only); (try simp only [szL, szLs]); omega
      · split
        · (try dsimp only); (try simp only [szL, szLs]); omega
        · split
          · (try dsimp only); (try simp only [szL, szLs]); omega
          · split <;> ((try dsimp only); (try simp only [szL, szLs]); omega)
theorem rightS_up (l : L) : ∀ (p q d d' : Int), d ≤ d' → rightS l p q d = true → rightS l p q d' = true := by
  induction l using L.ind with
  | h l ih =>
    intro p q d d' hd h
    obtain ⟨h1, h2, h3, h4⟩ := right_kid h
    rw [rightS_eq]
    simp only [Bool.and_eq_true, decide_eq_true_eq, Bool.not_eq_true', List.any_eq_false, Bool.not_eq_false]
    exact ⟨⟨⟨by omega, h2⟩, h3⟩, fun k hk => ih k hk p q (d - 1) (d' - 1) (by omega) (h4 k hk)⟩
end Pi


set_option linter.unusedSimpArgs false
set_option linter.unusedVariables false
namespace Pi
theorem RightS_of {l : L} {p q : Nat} (hp : p ≤ 5) (hq : q ≤ 10) (hz : szL l ≤ 100) (h : rightS l p q 12 = true) : RightS l p q = true := by
  unfold RightS
  have := nodesS_le l 101
  rw [if_neg (by omega)]
  simp [h]
  omega
end Pi


set_option linter.unusedSimpArgs false
set_option linter.unusedVariables false
namespace Pi
end Pi


set_option linter.unusedSimpArgs false
set_option linter.unusedVariables false
namespace Pi
end Pi


set_option linter.unusedSimpArgs false
set_option linter.unusedVariables false
namespace Pi
theorem innL_sV {α : Type} (S : Nat → Bool) (f : α → List V) (l : List α) : (sV f l).inn S = true := rfl
end Pi


set_option linter.unusedSimpArgs false
set_option linter.unusedVariables false
namespace Pi
theorem cT_of (k n : Int) (ls : List L) (ks : List Tm) : cT (.mk k n ls ks) = [.i .i64 k, .i .i64 n, sV cL ls, sV cT ks] := by rw [cT_at]; rfl
theorem FzN {m : Sto} {lo x d : Nat} : FzAt m lo x d [.ns] [sV cT []] := fun m2 _ dd _ => ⟨[], by simp [sV]⟩
end Pi


set_option linter.unusedSimpArgs false
set_option linter.unusedVariables false
namespace Pi
end Pi


set_option linter.unusedSimpArgs false
set_option linter.unusedVariables false
namespace Pi
end Pi


set_option linter.unusedSimpArgs false
set_option linter.unusedVariables false
namespace Pi
end Pi


set_option linter.unusedSimpArgs false
set_option linter.unusedVariables false
namespace Pi
end Pi


set_option linter.unusedSimpArgs false
set_option linter.unusedVariables false
namespace Pi
end Pi


set_option linter.unusedSimpArgs false
set_option linter.unusedVariables false
namespace Pi
theorem rightT_of {t : Tm} {v p q d : Int} (h1 : 0 < d) (h2 : (t.kids.length : Int) = kidsT t.kind) (h3 : namedT t v = true) (h4 : ∀ l ∈ t.lvls, RightS l p q = true) (h5 : ∀ (j : Nat) (h : j < t.kids.length), rightT t.kids[j] (v + bindT t.kind j) p q (d - 1) = true) : rightT t v p q d = true := by
  rw [rightT_eq]
  have e1 : (t.lvls.any fun l => !(RightS l p q)) = false := by
    rw [List.any_eq_false]
    intro x hx
    rw [h4 x hx]
    simp
  rw [e1, h3, rightTs_true.2 (fun j h => by rw [Nat.zero_add]; exact h5 j h)]
  simp [h1, h2]
theorem parts_up (m : Int) : ∀ (ks : List Tm), (∀ k ∈ ks, ∀ m : Int, partsT k m ≤ (szT k : Int)) → ∀ (n s : Int), n ≤ s → ks.foldl (partsF m) n ≤ s + szTs ks
  | [], _, n, s, h => by simpa [szTs] using h
  | k :: r, hk, n, s, h => by
    rw [List.foldl_cons]
    have h1 := hk k (by simp) (m - n)
    have := parts_up m r (fun x hx => hk x (by simp [hx])) (partsF m n k) (s + szT k) (by unfold partsF; split <;> omega)
    simp only [szTs]
    omega
theorem parts_le (t : Tm) : ∀ m : Int, partsT t m ≤ (szT t : Int) := by
  induction t using Tm.ind with
  | h t ih =>
    intro m
    have := parts_up m t.kids ih 1 1 (by omega)
    rw [partsT_eq, szT_eq]
    omega
end Pi


set_option linter.unusedSimpArgs false
set_option linter.unusedVariables false
namespace Pi
theorem ref13_kids.a (k : Int) : Ans ctx ref13_kids.n [.i .i64 k] (.i .i64 (kidsT k)) := by
  refine ans ref13_kids.f ?_
  unfold kidsT
  rcases kind7 k with rfl | rfl | rfl | rfl | rfl | rfl | rfl | ⟨h1, h2, h3, h4, h5, h6, h7⟩
  all_goals simp +contextual (disch := omega) [Nat.add_assoc, Int.add_assoc, if_pos, if_neg, -Int.not_lt, -Int.not_le, -Nat.not_lt, -Nat.not_le, -List.length_flatMap, ref13_kids.c, *]
theorem ref13_binds.a (k : Int) (i : Nat) (hi : i ≤ 1000000) : Ans ctx ref13_binds.n [.i .i64 k, .i .i64 i] (.i .i64 (bindT k i)) := by
  refine ans ref13_binds.f ?_
  have e1 : ((i : Int) = 1) = (i = 1) := by apply propext; omega
  have e2 : ((i : Int) = 2) = (i = 2) := by apply propext; omega
  unfold bindT
  rcases kind7 k with rfl | rfl | rfl | rfl | rfl | rfl | rfl | ⟨h1, h2, h3, h4, h5, h6, h7⟩
  all_goals first
    | (by_cases c1 : i = 1 <;> by_cases c2 : i = 2 <;> simp +contextual (disch := omega) [Nat.add_assoc, Int.add_assoc, if_pos, if_neg, -Int.not_lt, -Int.not_le, -Nat.not_lt, -Nat.not_le, -List.length_flatMap, ref13_binds.c, e1, e2, c1, c2])
    | simp +contextual (disch := omega) [Nat.add_assoc, Int.add_assoc, if_pos, if_neg, -Int.not_lt, -Int.not_le, -Nat.not_lt, -Nat.not_le, -List.length_flatMap, ref13_binds.c, h5, h6, h7]
set_option maxHeartbeats 1000000 in
theorem ref13_named.a (t : Tm) (ok : t.Ok) (v p q : Int) : Ans ctx ref13_named.n [.ag (cT t), .i .i64 v, .i .i64 p, .i .i64 q] (.b (!(t.lvls.any fun l => !(RightS l p q)) && namedT t v)) := by
  have hlen := ok.llen
  refine ans ref13_named.f ?_
  simp +contextual (disch := omega) [Nat.add_assoc, Int.add_assoc, if_pos, if_neg, -Int.not_lt, -Int.not_le, -Nat.not_lt, -Nat.not_le, -List.length_flatMap, ref13_named.c]
  refine for_w (fun i e m x => e 1 = .i .i64 v ∧ e 2 = .i .i64 p ∧ e 3 = .i .i64 q ∧ e 4 = .p 0 0 ∧ m 0 = some (.cells (cT t) false) ∧ e 9 = .i .i64 i ∧ ∀ (j : Nat) (h : j < t.lvls.length), j < i → RightS t.lvls[j] p q = true) t.lvls.length ?_ ?_ ?_
  · simp +contextual (disch := omega) [Nat.add_assoc, Int.add_assoc, if_pos, if_neg, -Int.not_lt, -Int.not_le, -Nat.not_lt, -Nat.not_le, -List.length_flatMap]
  · rintro i e m x hi ⟨g1, g2, g3, g4, m0, g9, hR⟩
    have hr := ref02_Right.a t.lvls[i] (ok.lat hi) p q
    cases hc : RightS t.lvls[i] p q with
    | true =>
      rw [hc] at hr
      simp +contextual (disch := omega) [Nat.add_assoc, Int.add_assoc, if_pos, if_neg, -Int.not_lt, -Int.not_le, -Nat.not_lt, -Nat.not_le, -List.length_flatMap, ref13_named.b1, g1, g2, g3, g4, m0, g9, hi, ansK hr]
      intro j h1 h2
      by_cases hj : j = i
      · subst hj; exact hc
      · exact hR j h1 (by omega)
    | false =>
      rw [hc] at hr
      have ha : (t.lvls.any fun l => !(RightS l p q)) = true := List.any_eq_true.2 ⟨_, List.getElem_mem hi, by rw [hc]; rfl⟩
      simp +contextual (disch := omega) [Nat.add_assoc, Int.add_assoc, if_pos, if_neg, -Int.not_lt, -Int.not_le, -Nat.not_lt, -Nat.not_le, -List.length_flatMap, ref13_named.b1, g1, g2, g3, g4, m0, g9, hi, ansK hr, ha]
  · rintro e m x ⟨g1, g2, g3, g4, m0, g9, hR⟩
    have ha : (t.lvls.any fun l => !(RightS l p q)) = false := by
      rw [List.any_eq_false]
      intro y hy
      obtain ⟨j, hj, rfl⟩ := List.getElem_of_mem hy
      rw [hR j hj hj]
      simp
    unfold namedT
    by_cases h1 : t.kind = 1
    · simp +contextual (disch := omega) [Nat.add_assoc, Int.add_assoc, if_pos, if_neg, -Int.not_lt, -Int.not_le, -Nat.not_lt, -Nat.not_le, -List.length_flatMap, ref13_named.b1, g1, g2, g3, g4, m0, g9, ha, h1]
    · by_cases h2 : t.kind = 2
      · simp +contextual (disch := omega) [Nat.add_assoc, Int.add_assoc, if_pos, if_neg, -Int.not_lt, -Int.not_le, -Nat.not_lt, -Nat.not_le, -List.length_flatMap, ref13_named.b1, g1, g2, g3, g4, m0, g9, ha, h1, h2]
        intros
        omega
      · by_cases h3 : t.kind = 3
        · simp +contextual (disch := omega) [Nat.add_assoc, Int.add_assoc, if_pos, if_neg, -Int.not_lt, -Int.not_le, -Nat.not_lt, -Nat.not_le, -List.length_flatMap, ref13_named.b1, g1, g2, g3, g4, m0, g9, ha, h1, h2, h3]
          intros
          omega
        · simp +contextual (disch := omega) [Nat.add_assoc, Int.add_assoc, if_pos, if_neg, -Int.not_lt, -Int.not_le, -Nat.not_lt, -Nat.not_le, -List.length_flatMap, ref13_named.b1, g1, g2, g3, g4, m0, g9, ha, h1, h2, h3]
set_option maxHeartbeats 2000000 in
theorem ref13_right.a (t : Tm) : t.Ok → ∀ v p q d : Int, (0 ≤ d ∧ d ≤ 100) → (0 ≤ v ∧ v + d ≤ 2000) → Ans ctx ref13_right.n [.ag (cT t), .i .i64 v, .i .i64 p, .i .i64 q, .i .i64 d] (.b (rightT t v p q d)) := by
  induction t using Tm.ind with
  | h t ih =>
  intro ok v p q d hd hv
  have hlen := ok.len
  refine ans ref13_right.f ?_
  rw [rightT_eq]
  have hn := ref13_named.a t ok v p q
  generalize (t.lvls.any fun l => !(RightS l p q)) = A at hn ⊢
  by_cases h0 : 0 < d
  · have h0' : ¬ d < 1 := by omega
    by_cases hk : (t.kids.length : Int) = kidsT t.kind
    · have hkl : t.kids.length ≤ 3 := by unfold kidsT at hk; omega
      cases A with
      | true => simp +contextual (disch := omega) [Nat.add_assoc, Int.add_assoc, if_pos, if_neg, -Int.not_lt, -Int.not_le, -Nat.not_lt, -Nat.not_le, -List.length_flatMap, ref13_right.c, ansK (ref13_kids.a _), h0, h0', hk, ansK hn]
      | false =>
        cases hm : namedT t v with
        | false =>
          rw [hm] at hn
          simp +contextual (disch := omega) [Nat.add_assoc, Int.add_assoc, if_pos, if_neg, -Int.not_lt, -Int.not_le, -Nat.not_lt, -Nat.not_le, -List.length_flatMap, ref13_right.c, ansK (ref13_kids.a _), h0, h0', hk, ansK hn]
        | true =>
          rw [hm] at hn
          simp +contextual (disch := omega) [Nat.add_assoc, Int.add_assoc, if_pos, if_neg, -Int.not_lt, -Int.not_le, -Nat.not_lt, -Nat.not_le, -List.length_flatMap, ref13_right.c, ansK (ref13_kids.a _), h0, h0', hk, ansK hn]
          refine for_w (fun i e m x => e 1 = .i .i64 v ∧ e 2 = .i .i64 p ∧ e 3 = .i .i64 q ∧ e 4 = .i .i64 d ∧ e 5 = .p 0 0 ∧ m 0 = some (.cells (cT t) false) ∧ e 11 = .i .i64 i ∧ ∀ (j : Nat) (h : j < t.kids.length), j < i → rightT t.kids[j] (v + bindT t.kind j) p q (d - 1) = true) t.kids.length ?_ ?_ ?_
          · simp +contextual (disch := omega) [Nat.add_assoc, Int.add_assoc, if_pos, if_neg, -Int.not_lt, -Int.not_le, -Nat.not_lt, -Nat.not_le, -List.length_flatMap]
          · rintro i e m x hi ⟨g1, g2, g3, g4, g5, m0, g11, hR⟩
            have hb : bindT t.kind i = 0 ∨ bindT t.kind i = 1 := by unfold bindT; split <;> simp
            have hv2 : 0 ≤ v + bindT t.kind i ∧ v + bindT t.kind i + (d - 1) ≤ 2000 := by omega
            have hr := ih t.kids[i] (List.getElem_mem hi) (ok.at hi) (v + bindT t.kind i) p q (d - 1) (by omega) hv2
            have hB := ref13_binds.a t.kind i (by omega)
            cases hc2 : rightT t.kids[i] (v + bindT t.kind i) p q (d - 1) with
            | true =>
              rw [hc2] at hr
              simp +contextual (disch := omega) [Nat.add_assoc, Int.add_assoc, if_pos, if_neg, -Int.not_lt, -Int.not_le, -Nat.not_lt, -Nat.not_le, -List.length_flatMap, ref13_right.b1, g1, g2, g3, g4, g5, m0, g11, hi, ansK hB, ansK hr]
              intro j h1 h2
              by_cases hj : j = i
              · subst hj; exact hc2
              · exact hR j h1 (by omega)
            | false =>
              rw [hc2] at hr
              simp +contextual (disch := omega) [Nat.add_assoc, Int.add_assoc, if_pos, if_neg, -Int.not_lt, -Int.not_le, -Nat.not_lt, -Nat.not_le, -List.length_flatMap, ref13_right.b1, g1, g2, g3, g4, g5, m0, g11, hi, ansK hB, ansK hr, rightTs_false hi hc2]
          · rintro e m x ⟨g1, g2, g3, g4, g5, m0, g11, hR⟩
            have : rightTs t.kind t.kids 0 v p q (d - 1) = true := rightTs_true.2 (fun j h => by rw [Nat.zero_add]; exact hR j h h)
            simp +contextual (disch := omega) [Nat.add_assoc, Int.add_assoc, if_pos, if_neg, -Int.not_lt, -Int.not_le, -Nat.not_lt, -Nat.not_le, -List.length_flatMap, ref13_right.b1, g1, g2, g3, g4, g5, m0, g11, this]
    · simp +contextual (disch := omega) [Nat.add_assoc, Int.add_assoc, if_pos, if_neg, -Int.not_lt, -Int.not_le, -Nat.not_lt, -Nat.not_le, -List.length_flatMap, ref13_right.c, ansK (ref13_kids.a _), h0, h0', hk]
  · have h0' : d < 1 := by omega
    simp +contextual (disch := omega) [Nat.add_assoc, Int.add_assoc, if_pos, if_neg, -Int.not_lt, -Int.not_le, -Nat.not_lt, -Nat.not_le, -List.length_flatMap, ref13_right.c, h0, h0']
theorem ref13_Right.a (t : Tm) (ok : t.Ok) (v p q : Int) : Ans ctx ref13_Right.n [.ag (cT t), .i .i64 v, .i .i64 p, .i .i64 q] (.b (RightT t v p q)) := by
  refine ans ref13_Right.f ?_
  unfold RightT
  by_cases h : v < 0 ∨ v > 1000 ∨ p < 0 ∨ p > 5 ∨ q < 0 ∨ q > 10
  · rw [if_pos h]
    have : ¬ (0 ≤ v ∧ v ≤ 1000 ∧ 0 ≤ p ∧ p ≤ 5 ∧ 0 ≤ q ∧ q ≤ 10) := by omega
    simp +contextual (disch := omega) [Nat.add_assoc, Int.add_assoc, if_pos, if_neg, -Int.not_lt, -Int.not_le, -Nat.not_lt, -Nat.not_le, -List.length_flatMap, ref13_Right.c]
  · rw [if_neg h]
    by_cases hp : partsT t 601 ≤ 600
    · simp +contextual (disch := omega) [Nat.add_assoc, Int.add_assoc, if_pos, if_neg, -Int.not_lt, -Int.not_le, -Nat.not_lt, -Nat.not_le, -List.length_flatMap, ref13_Right.c, ansK (ref13_Parts.a t ok _ _ _), hp, ansK (ref13_right.a t ok _ _ _ _ _ _)]
    · simp +contextual (disch := omega) [Nat.add_assoc, Int.add_assoc, if_pos, if_neg, -Int.not_lt, -Int.not_le, -Nat.not_lt, -Nat.not_le, -List.length_flatMap, ref13_Right.c, ansK (ref13_Parts.a t ok _ _ _), hp]
theorem ref13_Shape.a (t : Tm) (ok : t.Ok) : Ans ctx ref13_Shape.n [.ag (cT t)] (.b (RightT t 1000 5 10)) := by
  refine ans ref13_Shape.f ?_
  simp +contextual (disch := omega) [Nat.add_assoc, Int.add_assoc, if_pos, if_neg, -Int.not_lt, -Int.not_le, -Nat.not_lt, -Nat.not_le, -List.length_flatMap, ref13_Shape.c, ansK (ref13_Right.a t ok _ _ _)]
theorem ref14_num.a (n : Int) (h : 0 ≤ n ∧ n ≤ 1099511627776) : Ans ctx ref14_num.n [.i .i64 n] (.s (bs (digs n.toNat))) := by
  refine ans ref14_num.f ?_
  have hp := ref01_Put.a n
  unfold putS at hp
  rw [if_neg (by omega)] at hp
  simp +contextual (disch := omega) [Nat.add_assoc, Int.add_assoc, if_pos, if_neg, -Int.not_lt, -Int.not_le, -Nat.not_lt, -Nat.not_le, -List.length_flatMap, ref14_num.c, ansK hp]
theorem flat_part {α : Type} {f : α → List Nat} {l : List α} {i : Nat} (hi : i < l.length) : (l.take (i + 1)).flatMap f = (l.take i).flatMap f ++ f l[i] ∧ ((l.take i).flatMap f).length + (f l[i]).length ≤ (l.flatMap f).length := by
  have hT : (l.take (i + 1)).flatMap f = (l.take i).flatMap f ++ f l[i] := by
    rw [List.take_succ_eq_append_getElem hi, List.flatMap_append]; simp
  have hall : l.flatMap f = (l.take (i + 1)).flatMap f ++ (l.drop (i + 1)).flatMap f := by
    rw [← List.flatMap_append, List.take_append_drop]
  have hle := congrArg List.length hall
  rw [hT] at hle
  simp only [List.length_append] at hle
  exact ⟨hT, by omega⟩
theorem text_llp (t : Tm) (ok : t.Ok) (hR : ∀ l ∈ t.lvls, RightS l 5 10 = true) {Q : X → S → Prop} {e : Env} {m : Sto} {x : Nat} (H : List Nat) (hH : H.length + (t.lvls.flatMap textL).length ≤ 24576000)
    (e1 : e 1 = .p 0 0) (m0 : m 0 = some (.cells (cT t) false)) (e3 : e 3 = .s (bs H)) (e4 : e 4 = .i .i64 0)
    (hQ : ∀ e' m' x', e' 1 = .p 0 0 → m' 0 = some (.cells (cT t) false) → e' 3 = .s (bs (H ++ t.lvls.flatMap textL)) → Q (.exit 0) ⟨e', m', x', [], none, none⟩) :
    w ctx e m x [] none none Q (.loop ref14_text.b1) := by
  have hlen := ok.llen
  refine for_w (fun i e m x => e 1 = .p 0 0 ∧ m 0 = some (.cells (cT t) false) ∧ e 4 = .i .i64 i ∧ e 3 = .s (bs (H ++ (t.lvls.take i).flatMap textL))) t.lvls.length ?_ ?_ ?_
  · exact ⟨e1, m0, e4, by simpa using e3⟩
  · rintro i e m x hi ⟨g1, g2, g3, g4⟩
    obtain ⟨hT, hle⟩ := flat_part (f := textL) hi
    have hp := ref03_Put.a t.lvls[i] (ok.lat hi)
    rw [if_pos (hR _ (List.getElem_mem hi))] at hp
    simp +contextual (disch := omega) [Nat.add_assoc, Int.add_assoc, if_pos, if_neg, -Int.not_lt, -Int.not_le, -Nat.not_lt, -Nat.not_le, -List.length_flatMap, ref14_text.b1, g1, g2, g3, g4, hi, ansK hp]
    rw [hT]
  · rintro e m x ⟨g1, g2, g3, g4⟩
    rw [List.take_length] at g4
    simp +contextual (disch := omega) [Nat.add_assoc, Int.add_assoc, if_pos, if_neg, -Int.not_lt, -Int.not_le, -Nat.not_lt, -Nat.not_le, -List.length_flatMap, ref14_text.b1, g1, g2, g3, g4]
    exact hQ _ _ _ (by simp +contextual (disch := omega) [Nat.add_assoc, Int.add_assoc, if_pos, if_neg, -Int.not_lt, -Int.not_le, -Nat.not_lt, -Nat.not_le, -List.length_flatMap, g1]) g2 (by simp +contextual (disch := omega) [Nat.add_assoc, Int.add_assoc, if_pos, if_neg, -Int.not_lt, -Int.not_le, -Nat.not_lt, -Nat.not_le, -List.length_flatMap, g4])
theorem text_klp (t : Tm) (ok : t.Ok) (hA : ∀ k ∈ t.kids, Ans ctx ref14_text.n [.ag (cT k)] (.s (bs (textT k)))) {Q : X → S → Prop} {e : Env} {m : Sto} {x : Nat} (H : List Nat) (hH : H.length + (t.kids.flatMap textT).length ≤ 24576000)
    (e1 : e 1 = .p 0 0) (m0 : m 0 = some (.cells (cT t) false)) (e3 : e 3 = .s (bs H)) (e7 : e 7 = .i .i64 0)
    (hQ : ∀ e' m' x', e' 1 = .p 0 0 → m' 0 = some (.cells (cT t) false) → e' 3 = .s (bs (H ++ t.kids.flatMap textT)) → Q (.exit 2) ⟨e', m', x', [], none, none⟩) :
    w ctx e m x [] none none Q (.loop ref14_text.b2) := by
  have hlen := ok.len
  refine for_w (fun i e m x => e 1 = .p 0 0 ∧ m 0 = some (.cells (cT t) false) ∧ e 7 = .i .i64 i ∧ e 3 = .s (bs (H ++ (t.kids.take i).flatMap textT))) t.kids.length ?_ ?_ ?_
  · exact ⟨e1, m0, e7, by simpa using e3⟩
  · rintro i e m x hi ⟨g1, g2, g3, g4⟩
    obtain ⟨hT, hle⟩ := flat_part (f := textT) hi
    simp +contextual (disch := omega) [Nat.add_assoc, Int.add_assoc, if_pos, if_neg, -Int.not_lt, -Int.not_le, -Nat.not_lt, -Nat.not_le, -List.length_flatMap, ref14_text.b2, g1, g2, g3, g4, hi, ansK (hA _ (List.getElem_mem hi))]
    rw [hT]
  · rintro e m x ⟨g1, g2, g3, g4⟩
    rw [List.take_length] at g4
    simp +contextual (disch := omega) [Nat.add_assoc, Int.add_assoc, if_pos, if_neg, -Int.not_lt, -Int.not_le, -Nat.not_lt, -Nat.not_le, -List.length_flatMap, ref14_text.b2, g1, g2, g3, g4]
    exact hQ _ _ _ (by simp +contextual (disch := omega) [Nat.add_assoc, Int.add_assoc, if_pos, if_neg, -Int.not_lt, -Int.not_le, -Nat.not_lt, -Nat.not_le, -List.length_flatMap, g1]) g2 (by simp +contextual (disch := omega) [Nat.add_assoc, Int.add_assoc, if_pos, if_neg, -Int.not_lt, -Int.not_le, -Nat.not_lt, -Nat.not_le, -List.length_flatMap, g4])
set_option maxHeartbeats 2000000 in
theorem ref14_text.a (t : Tm) : t.Ok → ∀ (v d : Int) (hv : v + d ≤ 2000) (h : rightT t v 5 10 d = true), (textT t).length ≤ 24576000 → Ans ctx ref14_text.n [.ag (cT t)] (.s (bs (textT t))) := by
  induction t using Tm.ind with
  | h t ih =>
    intro ok v d hv h hT
    obtain ⟨r1, r2, r3, r4, r5⟩ := rightT_at h
    obtain ⟨s1, s2, s3, s4, s5, s6, s7⟩ := right_head h (by omega)
    have hlen := ok.len
    have hllen := ok.llen
    have n1 := ref14_num.a t.kind (by omega)
    have n3 := ref14_num.a (t.lvls.length : Int) (by omega)
    rw [Int.toNat_natCast] at n3
    rw [textT_eq] at hT ⊢
    have hA : ∀ k ∈ t.kids, Ans ctx ref14_text.n [.ag (cT k)] (.s (bs (textT k))) := by
      intro k hk
      obtain ⟨j, hj, rfl⟩ := List.getElem_of_mem hk
      have hb : bindT t.kind j ≤ 1 := by unfold bindT; split <;> omega
      have := (flat_part (f := textT) hj).2
      simp only [List.length_append] at hT
      exact ih _ hk (ok.kid hk) (v + bindT t.kind j) (d - 1) (by omega) (r5 j hj) (by omega)
    obtain ⟨H, hH⟩ : ∃ H, H = headT t := ⟨_, rfl⟩
    have hH2 := hH
    unfold headT at hH2
    rw [← hH] at hT ⊢
    simp only [List.length_append] at hT
    have hlH := congrArg List.length hH2
    simp only [List.length_append] at hlH
    refine ans ref14_text.f ?_
    by_cases h1 : t.kind = 1
    · have n2 := ref14_num.a t.n (by have := s2 h1; omega)
      rw [h1] at n1
      rw [if_pos h1, h1] at hH2
      rw [if_pos h1, h1] at hlH
      rw [show (1 : Int).toNat = 1 from rfl] at hlH hH2
      simp +contextual (disch := omega) [Nat.add_assoc, Int.add_assoc, if_pos, if_neg, -Int.not_lt, -Int.not_le, -Nat.not_lt, -Nat.not_le, -List.length_flatMap, ref14_text.c, h1, ansK n1, ansK n2]
      refine text_llp t ok r4 H (by omega) (by simp +contextual (disch := omega) [Nat.add_assoc, Int.add_assoc, if_pos, if_neg, -Int.not_lt, -Int.not_le, -Nat.not_lt, -Nat.not_le, -List.length_flatMap]) (by simp +contextual (disch := omega) [Nat.add_assoc, Int.add_assoc, if_pos, if_neg, -Int.not_lt, -Int.not_le, -Nat.not_lt, -Nat.not_le, -List.length_flatMap]) (by simp +contextual (disch := omega) [Nat.add_assoc, Int.add_assoc, if_pos, if_neg, -Int.not_lt, -Int.not_le, -Nat.not_lt, -Nat.not_le, -List.length_flatMap, hH2]) (by simp +contextual (disch := omega) [Nat.add_assoc, Int.add_assoc, if_pos, if_neg, -Int.not_lt, -Int.not_le, -Nat.not_lt, -Nat.not_le, -List.length_flatMap]) ?_
      intro e' m' x' g1 g2 g3
      simp +contextual (disch := omega) [Nat.add_assoc, Int.add_assoc, if_pos, if_neg, -Int.not_lt, -Int.not_le, -Nat.not_lt, -Nat.not_le, -List.length_flatMap, g1, g3]
      refine text_klp t ok hA (H ++ t.lvls.flatMap textL) (by rw [List.length_append]; omega) (by simp +contextual (disch := omega) [Nat.add_assoc, Int.add_assoc, if_pos, if_neg, -Int.not_lt, -Int.not_le, -Nat.not_lt, -Nat.not_le, -List.length_flatMap, g1]) (by simp +contextual (disch := omega) [Nat.add_assoc, Int.add_assoc, if_pos, if_neg, -Int.not_lt, -Int.not_le, -Nat.not_lt, -Nat.not_le, -List.length_flatMap, g2]) (by simp +contextual (disch := omega) [Nat.add_assoc, Int.add_assoc, if_pos, if_neg, -Int.not_lt, -Int.not_le, -Nat.not_lt, -Nat.not_le, -List.length_flatMap, g3]) (by simp +contextual (disch := omega) [Nat.add_assoc, Int.add_assoc, if_pos, if_neg, -Int.not_lt, -Int.not_le, -Nat.not_lt, -Nat.not_le, -List.length_flatMap]) ?_
      intro e' m' x' g1 g2 g3
      simp +contextual (disch := omega) [Nat.add_assoc, Int.add_assoc, if_pos, if_neg, -Int.not_lt, -Int.not_le, -Nat.not_lt, -Nat.not_le, -List.length_flatMap, g1, g3]
    · by_cases h3 : t.kind = 3
      · have n2 := ref14_num.a t.n (by have := s3 h3; omega)
        rw [h3] at n1
        rw [if_neg h1, if_pos h3, h3] at hH2
        rw [if_neg h1, if_pos h3, h3] at hlH
        rw [show (3 : Int).toNat = 3 from rfl] at hlH hH2
        simp only [List.length_append] at hlH
        simp +contextual (disch := omega) [Nat.add_assoc, Int.add_assoc, if_pos, if_neg, -Int.not_lt, -Int.not_le, -Nat.not_lt, -Nat.not_le, -List.length_flatMap, ref14_text.c, h3, ansK n1, ansK n2, ansK n3]
        refine text_llp t ok r4 H (by omega) (by simp +contextual (disch := omega) [Nat.add_assoc, Int.add_assoc, if_pos, if_neg, -Int.not_lt, -Int.not_le, -Nat.not_lt, -Nat.not_le, -List.length_flatMap]) (by simp +contextual (disch := omega) [Nat.add_assoc, Int.add_assoc, if_pos, if_neg, -Int.not_lt, -Int.not_le, -Nat.not_lt, -Nat.not_le, -List.length_flatMap]) (by simp +contextual (disch := omega) [Nat.add_assoc, Int.add_assoc, if_pos, if_neg, -Int.not_lt, -Int.not_le, -Nat.not_lt, -Nat.not_le, -List.length_flatMap, hH2]) (by simp +contextual (disch := omega) [Nat.add_assoc, Int.add_assoc, if_pos, if_neg, -Int.not_lt, -Int.not_le, -Nat.not_lt, -Nat.not_le, -List.length_flatMap]) ?_
        intro e' m' x' g1 g2 g3
        simp +contextual (disch := omega) [Nat.add_assoc, Int.add_assoc, if_pos, if_neg, -Int.not_lt, -Int.not_le, -Nat.not_lt, -Nat.not_le, -List.length_flatMap, g1, g3]
        refine text_klp t ok hA (H ++ t.lvls.flatMap textL) (by rw [List.length_append]; omega) (by simp +contextual (disch := omega) [Nat.add_assoc, Int.add_assoc, if_pos, if_neg, -Int.not_lt, -Int.not_le, -Nat.not_lt, -Nat.not_le, -List.length_flatMap, g1]) (by simp +contextual (disch := omega) [Nat.add_assoc, Int.add_assoc, if_pos, if_neg, -Int.not_lt, -Int.not_le, -Nat.not_lt, -Nat.not_le, -List.length_flatMap, g2]) (by simp +contextual (disch := omega) [Nat.add_assoc, Int.add_assoc, if_pos, if_neg, -Int.not_lt, -Int.not_le, -Nat.not_lt, -Nat.not_le, -List.length_flatMap, g3]) (by simp +contextual (disch := omega) [Nat.add_assoc, Int.add_assoc, if_pos, if_neg, -Int.not_lt, -Int.not_le, -Nat.not_lt, -Nat.not_le, -List.length_flatMap]) ?_
        intro e' m' x' g1 g2 g3
        simp +contextual (disch := omega) [Nat.add_assoc, Int.add_assoc, if_pos, if_neg, -Int.not_lt, -Int.not_le, -Nat.not_lt, -Nat.not_le, -List.length_flatMap, g1, g3]
      · rw [if_neg h1, if_neg h3] at hH2
        rw [if_neg h1, if_neg h3] at hlH
        simp +contextual (disch := omega) [Nat.add_assoc, Int.add_assoc, if_pos, if_neg, -Int.not_lt, -Int.not_le, -Nat.not_lt, -Nat.not_le, -List.length_flatMap, ref14_text.c, h1, h3, ansK n1]
        refine text_llp t ok r4 H (by omega) (by simp +contextual (disch := omega) [Nat.add_assoc, Int.add_assoc, if_pos, if_neg, -Int.not_lt, -Int.not_le, -Nat.not_lt, -Nat.not_le, -List.length_flatMap]) (by simp +contextual (disch := omega) [Nat.add_assoc, Int.add_assoc, if_pos, if_neg, -Int.not_lt, -Int.not_le, -Nat.not_lt, -Nat.not_le, -List.length_flatMap]) (by simp +contextual (disch := omega) [Nat.add_assoc, Int.add_assoc, if_pos, if_neg, -Int.not_lt, -Int.not_le, -Nat.not_lt, -Nat.not_le, -List.length_flatMap, hH2]) (by simp +contextual (disch := omega) [Nat.add_assoc, Int.add_assoc, if_pos, if_neg, -Int.not_lt, -Int.not_le, -Nat.not_lt, -Nat.not_le, -List.length_flatMap]) ?_
        intro e' m' x' g1 g2 g3
        simp +contextual (disch := omega) [Nat.add_assoc, Int.add_assoc, if_pos, if_neg, -Int.not_lt, -Int.not_le, -Nat.not_lt, -Nat.not_le, -List.length_flatMap, g1, g3]
        refine text_klp t ok hA (H ++ t.lvls.flatMap textL) (by rw [List.length_append]; omega) (by simp +contextual (disch := omega) [Nat.add_assoc, Int.add_assoc, if_pos, if_neg, -Int.not_lt, -Int.not_le, -Nat.not_lt, -Nat.not_le, -List.length_flatMap, g1]) (by simp +contextual (disch := omega) [Nat.add_assoc, Int.add_assoc, if_pos, if_neg, -Int.not_lt, -Int.not_le, -Nat.not_lt, -Nat.not_le, -List.length_flatMap, g2]) (by simp +contextual (disch := omega) [Nat.add_assoc, Int.add_assoc, if_pos, if_neg, -Int.not_lt, -Int.not_le, -Nat.not_lt, -Nat.not_le, -List.length_flatMap, g3]) (by simp +contextual (disch := omega) [Nat.add_assoc, Int.add_assoc, if_pos, if_neg, -Int.not_lt, -Int.not_le, -Nat.not_lt, -Nat.not_le, -List.length_flatMap]) ?_
        intro e' m' x' g1 g2 g3
        simp +contextual (disch := omega) [Nat.add_assoc, Int.add_assoc, if_pos, if_neg, -Int.not_lt, -Int.not_le, -Nat.not_lt, -Nat.not_le, -List.length_flatMap, g1, g3]
theorem ref14_Put.a (t : Tm) (ok : t.Ok) : Ans ctx ref14_Put.n [.ag (cT t)] (putTm t) := by
  refine ans ref14_Put.f ?_
  unfold putTm
  by_cases hR : RightT t 1000 5 10 = true
  · rw [if_pos hR]
    simp +contextual (disch := omega) [Nat.add_assoc, Int.add_assoc, if_pos, if_neg, -Int.not_lt, -Int.not_le, -Nat.not_lt, -Nat.not_le, -List.length_flatMap, ref14_Put.c, ansK (ref13_Shape.a t ok), hR, ansK (ref14_text.a t ok 1000 30 (by omega) (RightT_right hR).1 (RightT_len hR))]
  · rw [if_neg hR]
    simp +contextual (disch := omega) [Nat.add_assoc, Int.add_assoc, if_pos, if_neg, -Int.not_lt, -Int.not_le, -Nat.not_lt, -Nat.not_le, -List.length_flatMap, ref14_Put.c, ansK (ref13_Shape.a t ok), hR]
end Pi

