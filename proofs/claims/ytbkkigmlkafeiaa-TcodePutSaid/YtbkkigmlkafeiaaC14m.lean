/- Contracts: terms (layer 13): the maker's levels, and where they lie. -/
import Derived.Test.YtbkkigmlkafeiaaC02g
set_option linter.unusedSimpArgs false
set_option linter.unusedVariables false
namespace Pi
/-- What is frozen lies where it is looked for. -/
theorem FzAt.ids {m : Sto} {lo x k : Nat} {cs out : List V} (h : FzAt m lo x k cs out) (d : Nat) (hd : k ≤ d) : ∃ ids, frzL (der m d) cs = some (out, ids) ∧ ∀ i ∈ ids, lo ≤ i ∧ i < x := by
  obtain ⟨m2, hm2⟩ : ∃ m2 : Sto, m2 = fun j => if lo ≤ j ∧ j < x then m j else none := ⟨_, rfl⟩
  obtain ⟨ids, e⟩ := h m2 (fun j h1 h2 => by rw [hm2]; exact if_pos ⟨h1, h2⟩) d hd
  have hid : ∀ i ∈ ids, lo ≤ i ∧ i < x := fun i hi => by
    by_cases hc : lo ≤ i ∧ i < x
    · exact hc
    · have hn : m2 i = none := by rw [hm2]; exact if_neg hc
      rcases frzL_there (der_there d) cs e i hi with ⟨_, _, h⟩ | ⟨_, _, _, h⟩ | ⟨_, h⟩ <;> rw [hn] at h <;> cases h
  exact ⟨ids, frzL_same (der_same (m := m2) (m' := m) d) cs e (fun l hl => by rw [hm2]; exact (if_pos (hid l hl)).symm), hid⟩
/-- What stands behind a maker's call: with where it lies. -/
def MadeI (l : List Nat) (a x0 x d : Nat) (m : Sto) (r : L × Nat) (K : CR → Sto → Nat → Prop) : Prop :=
  ∀ cs m' x', cs.length = 3 → m' a = some (.cells [sV cU l, .i .i64 (r.2 : Nat)] false) → (∀ j, j < x → j ≠ a → m' j = m j) → x ≤ x' → FzAt m' x x' d cs (cL r.1) → InnM a x0 m' → innL (orNew [a] x0) cs = true → K (.ret (.ag cs)) m' x'
set_option maxHeartbeats 4000000 in
theorem law02_Maker_Level.w (l : List Nat) (hb : Byt l) (p q : Nat) (hp : p ≤ 256) (hq : q ≤ 256) (a : Nat) : ∀ (d : Nat), d ≤ 10 → ∀ (i : Nat) {m : Sto} {x x0 : Nat} {K : CR → Sto → Nat → Prop}, x0 ≤ x → a < x0 → InnM a x0 m → i + 4 ^ (d + 2) ≤ 1000000000 → a < x → m a = some (.cells [sV cU l, .i .i64 i] false) →
    MadeI l a x0 x (d + 2) m (mkS l p q (d + 1) i) K →
    Pi.w ctx (envOf [.p a 0, .i .i64 p, .i .i64 q, .i .i64 ((d : Int) + 1)]) m x [] none none (RetG ctx law02_Maker_Level.c.rs K) law02_Maker_Level.c.code := by
  have hfL : ctx.frz law02_Maker_Level.n = false := rfl
  intro d
  induction d using Nat.strongRecOn with
  | ind d ih =>
  intro hd i m x x0 K hx0 ha0 hI hi hax hm hK
  have h4 : 16 ≤ 4 ^ (d + 2) := by
    calc 16 = 4 ^ 2 := rfl
      _ ≤ 4 ^ (d + 2) := Nat.pow_le_pow_right (by omega) (by omega)
  simp +contextual (disch := omega) [Nat.add_assoc, Int.add_assoc, if_pos, if_neg, -Int.not_lt, -Int.not_le, -Nat.not_lt, -Nat.not_le, -List.length_flatMap, law02_Maker_Level.c]
  refine pick_w (l := l) (i := i) (n := 10) (by simp +contextual (disch := omega) [Nat.add_assoc, Int.add_assoc, if_pos, if_neg, -Int.not_lt, -Int.not_le, -Nat.not_lt, -Nat.not_le, -List.length_flatMap, hm]) hb (by omega) (by omega) ?_
  intro x1 hx1
  have hk := pickS_lt l i 10 (by omega)
  rw [mkS_eq] at hK
  generalize pickS l i 10 = k at hk hK
  have hk4 : ((k : Int)).tmod 4 = ((k % 4 : Nat) : Int) := by rw [Int.tmod_eq_emod_of_nonneg (by omega)]; omega
  generalize hkk : (if d = 0 then k % 4 else k) = kk at hK
  simp only at hK
  have hkc : (d = 0 ∧ (k : Int).tmod 4 = kk ∧ kk < 4) ∨ (0 < d ∧ (k : Int) = kk ∧ kk < 10) := by
    rcases Nat.eq_zero_or_pos d with h0 | h0
    · rw [if_pos h0] at hkk
      exact .inl ⟨h0, by rw [hk4, hkk], by omega⟩
    · rw [if_neg (by omega)] at hkk
      exact .inr ⟨h0, by omega, by omega⟩
  clear hk4 hkk
  have leaf : ∀ (m' : Sto) (x' : Nat) (u v : Int), FzAt m' x x' (d + 2) [.i .i64 u, .i .i64 v, .ns] (cL (.mk u v [])) := fun m' x' u v m2 _ dd _ => ⟨[], by simp⟩
  by_cases hA : (kk = 1 ∧ 0 < p) ∨ (kk = 2 ∧ 0 < p ∧ q = 0)
  · rw [if_pos hA] at hK
    have fin : ∀ (m' : Sto) (x' : Nat), x < x' → m' x = some (.cells [.i .i64 5, .i .i64 (pickS l (i + 1) p : Nat), .ns] false) → m' a = some (.cells [sV cU l, .i .i64 ((i + 2 : Nat) : Int)] false) → (∀ j, j < x → j ≠ a → m' j = m j) → InnM a x0 m' → K (.ret (.ag [.i .i64 5, .i .i64 (pickS l (i + 1) p : Nat), .ns])) m' x' :=
      fun m' x' h1 h2 h3 h4 h5 => hK _ m' x' rfl h3 h4 (by omega) (leaf _ _ _ _) h5 rfl
    rcases hA with ⟨hA1, hA2⟩ | ⟨hA1, hA2, hA3⟩ <;> rcases hkc with ⟨h0, hk4, h5⟩ | ⟨h0, hk4, h5⟩
    all_goals (simp +contextual (disch := omega) [Nat.add_assoc, Int.add_assoc, if_pos, if_neg, -Int.not_lt, -Int.not_le, -Nat.not_lt, -Nat.not_le, -List.length_flatMap, hm, hk4])
    all_goals refine pick_w (l := l) (i := i + 1) (n := p) (by simp +contextual (disch := omega) [Nat.add_assoc, Int.add_assoc, if_pos, if_neg, -Int.not_lt, -Int.not_le, -Nat.not_lt, -Nat.not_le, -List.length_flatMap]) hb (by omega) (by omega) ?_
    all_goals intro x2 hx2
    all_goals (simp +contextual (disch := omega) [Nat.add_assoc, Int.add_assoc, if_pos, if_neg, -Int.not_lt, -Int.not_le, -Nat.not_lt, -Nat.not_le, -List.length_flatMap])
    all_goals refine fin _ _ (by omega) (by simp +contextual (disch := omega) [Nat.add_assoc, Int.add_assoc, if_pos, if_neg, -Int.not_lt, -Int.not_le, -Nat.not_lt, -Nat.not_le, -List.length_flatMap]) (by simp +contextual (disch := omega) [Nat.add_assoc, Int.add_assoc, if_pos, if_neg, -Int.not_lt, -Int.not_le, -Nat.not_lt, -Nat.not_le, -List.length_flatMap]) (by simp +contextual (disch := omega) [Nat.add_assoc, Int.add_assoc, if_pos, if_neg, -Int.not_lt, -Int.not_le, -Nat.not_lt, -Nat.not_le, -List.length_flatMap]) (by repeat (first | exact hI | refine InnM.set ?_ (fun _ => rfl)))
  · rw [if_neg hA] at hK
    by_cases hB : (kk = 2 ∨ kk = 3) ∧ 0 < q
    · rw [if_pos hB] at hK
      have fin : ∀ (m' : Sto) (x' : Nat), x < x' → m' x = some (.cells [.i .i64 6, .i .i64 (pickS l (i + 1) q : Nat), .ns] false) → m' a = some (.cells [sV cU l, .i .i64 ((i + 2 : Nat) : Int)] false) → (∀ j, j < x → j ≠ a → m' j = m j) → InnM a x0 m' → K (.ret (.ag [.i .i64 6, .i .i64 (pickS l (i + 1) q : Nat), .ns])) m' x' :=
        fun m' x' h1 h2 h3 h4 h5 => hK _ m' x' rfl h3 h4 (by omega) (leaf _ _ _ _) h5 rfl
      obtain ⟨hB1, hB2⟩ := hB
      rcases hB1 with hB1 | hB1 <;> rcases Nat.eq_zero_or_pos p with h6 | h6 <;> rcases hkc with ⟨h0, hk4, h5⟩ | ⟨h0, hk4, h5⟩
      all_goals (simp +contextual (disch := omega) [Nat.add_assoc, Int.add_assoc, if_pos, if_neg, -Int.not_lt, -Int.not_le, -Nat.not_lt, -Nat.not_le, -List.length_flatMap, hm, hk4])
      all_goals refine pick_w (l := l) (i := i + 1) (n := q) (by simp +contextual (disch := omega) [Nat.add_assoc, Int.add_assoc, if_pos, if_neg, -Int.not_lt, -Int.not_le, -Nat.not_lt, -Nat.not_le, -List.length_flatMap]) hb (by omega) (by omega) ?_
      all_goals intro x2 hx2
      all_goals (simp +contextual (disch := omega) [Nat.add_assoc, Int.add_assoc, if_pos, if_neg, -Int.not_lt, -Int.not_le, -Nat.not_lt, -Nat.not_le, -List.length_flatMap])
      all_goals refine fin _ _ (by omega) (by simp +contextual (disch := omega) [Nat.add_assoc, Int.add_assoc, if_pos, if_neg, -Int.not_lt, -Int.not_le, -Nat.not_lt, -Nat.not_le, -List.length_flatMap]) (by simp +contextual (disch := omega) [Nat.add_assoc, Int.add_assoc, if_pos, if_neg, -Int.not_lt, -Int.not_le, -Nat.not_lt, -Nat.not_le, -List.length_flatMap]) (by simp +contextual (disch := omega) [Nat.add_assoc, Int.add_assoc, if_pos, if_neg, -Int.not_lt, -Int.not_le, -Nat.not_lt, -Nat.not_le, -List.length_flatMap]) (by repeat (first | exact hI | refine InnM.set ?_ (fun _ => rfl)))
    · rw [if_neg hB] at hK
      by_cases hC : kk < 4
      · rw [if_pos hC] at hK
        have fin : ∀ (m' : Sto) (x' : Nat), x < x' → m' a = some (.cells [sV cU l, .i .i64 ((i + 1 : Nat) : Int)] false) → (∀ j, j < x → j ≠ a → m' j = m j) → InnM a x0 m' → K (.ret (.ag [.i .i64 1, .i .i64 0, .ns])) m' x' :=
          fun m' x' h1 h3 h4 h5 => hK _ m' x' rfl h3 h4 (by omega) (leaf _ _ _ _) h5 rfl
        rcases (by omega : kk = 0 ∨ kk = 1 ∨ kk = 2 ∨ kk = 3) with hC1 | hC1 | hC1 | hC1 <;> rcases hkc with ⟨h0, hk4, h5⟩ | ⟨h0, hk4, h5⟩
        all_goals (simp +contextual (disch := omega) [Nat.add_assoc, Int.add_assoc, if_pos, if_neg, -Int.not_lt, -Int.not_le, -Nat.not_lt, -Nat.not_le, -List.length_flatMap, hm, hk4])
        all_goals refine fin _ _ (by omega) (by simp +contextual (disch := omega) [Nat.add_assoc, Int.add_assoc, if_pos, if_neg, -Int.not_lt, -Int.not_le, -Nat.not_lt, -Nat.not_le, -List.length_flatMap]) (by simp +contextual (disch := omega) [Nat.add_assoc, Int.add_assoc, if_pos, if_neg, -Int.not_lt, -Int.not_le, -Nat.not_lt, -Nat.not_le, -List.length_flatMap]) (by repeat (first | exact hI | refine InnM.set ?_ (fun _ => rfl)))
      · rw [if_neg hC] at hK
        rcases hkc with ⟨h0, hk4, h5⟩ | ⟨h0, hk4, h5⟩
        · omega
        obtain ⟨d, rfl⟩ : ∃ e, d = e + 1 := ⟨d - 1, by omega⟩
        have h44 : 4 ^ (d + 1 + 2) = 4 * 4 ^ (d + 2) := by rw [Nat.pow_succ, Nat.mul_comm]
        have hdd : (d : Int) + 2 - 1 = d + 1 := by omega
        by_cases hD : kk < 6
        · rw [if_pos hD] at hK
          simp +contextual (disch := omega) [Nat.add_assoc, Int.add_assoc, if_pos, if_neg, -Int.not_lt, -Int.not_le, -Nat.not_lt, -Nat.not_le, -List.length_flatMap, hm, hk4, hdd]
          refine openg_w law02_Maker_Level.f rfl (.inl rfl) ?_
          rw [hfL]
          refine ih d (by omega) (by omega) (i + 1) (x0 := x0) (by omega) ha0 (by repeat (first | exact hI | refine InnM.set ?_ (fun _ => rfl))) (by omega) (by omega) (by simp +contextual (disch := omega) [Nat.add_assoc, Int.add_assoc, if_pos, if_neg, -Int.not_lt, -Int.not_le, -Nat.not_lt, -Nat.not_le, -List.length_flatMap]) ?_
          intro cs m1 x2 q1 q2 q3 q4 q5 q6 q7
          have ht : cs.take 3 = cs := List.take_of_length_le (by omega)
          have q3x := q3 x (by omega) (by omega)
          simp (disch := omega) at q3x
          generalize mkS l p q (d + 1) (i + 1) = r1 at hK q2 q5
          simp +contextual (disch := omega) [Nat.add_assoc, Int.add_assoc, if_pos, if_neg, -Int.not_lt, -Int.not_le, -Nat.not_lt, -Nat.not_le, -List.length_flatMap, q1, q3x, ht]
          refine hK _ _ _ rfl (by simp +contextual (disch := omega) [Nat.add_assoc, Int.add_assoc, if_pos, if_neg, -Int.not_lt, -Int.not_le, -Nat.not_lt, -Nat.not_le, -List.length_flatMap, q2]) (fun j h1 h2 => ?_) (by omega) ?_ ((q6.set (fun _ => by simpa [innO] using q7)).set (fun _ => by simp [innO, innL, V.inn, orNew]; omega)) (by simp [innL, V.inn, orNew]; omega)
          · have e2 := q3 j (by omega) h2
            simp +contextual (disch := omega) [Nat.add_assoc, Int.add_assoc, if_pos, if_neg, -Int.not_lt, -Int.not_le, -Nat.not_lt, -Nat.not_le, -List.length_flatMap, e2]
          · have z2 := (q5.low (lo' := x + 1) (by omega)).ms (esz := 3) (n := 1) (m' := (m1.set x2 (some (.cells cs false))).set x (some (.cells [.i .i64 2, .i .i64 0, .ms x2 0 1 3] false))) (x' := x2 + 3) (a := x2) (ro := false) (cs := cs) (by simp +contextual (disch := omega) [Nat.add_assoc, Int.add_assoc, if_pos, if_neg, -Int.not_lt, -Int.not_le, -Nat.not_lt, -Nat.not_le, -List.length_flatMap]) (by simp +contextual (disch := omega) [Nat.add_assoc, Int.add_assoc, if_pos, if_neg, -Int.not_lt, -Int.not_le, -Nat.not_lt, -Nat.not_le, -List.length_flatMap]) (by omega) (by omega) (by omega) (by simp)
            have z3 := (FzAt.fr (m := _) (lo := x + 1) (x := x2 + 3) (k := d + 1 + 2) (cs := [.i .i64 2, .i .i64 0]) (by simp)).app z2
            rw [cL_at]
            simpa [sV] using z3.low (lo' := x) (by omega)
        · rw [if_neg hD] at hK
          by_cases hE : kk < 8
          · rw [if_pos hE] at hK
            simp +contextual (disch := omega) [Nat.add_assoc, Int.add_assoc, if_pos, if_neg, -Int.not_lt, -Int.not_le, -Nat.not_lt, -Nat.not_le, -List.length_flatMap, hm, hk4, hdd]
            refine openg_w law02_Maker_Level.f rfl (.inl rfl) ?_
            rw [hfL]
            refine ih d (by omega) (by omega) (i + 1) (x0 := x0) (by omega) ha0 (by repeat (first | exact hI | refine InnM.set ?_ (fun _ => rfl))) (by omega) (by omega) (by simp +contextual (disch := omega) [Nat.add_assoc, Int.add_assoc, if_pos, if_neg, -Int.not_lt, -Int.not_le, -Nat.not_lt, -Nat.not_le, -List.length_flatMap]) ?_
            intro cs m1 x2 q1 q2 q3 q4 q5 q6 q7
            have ht : cs.take 3 = cs := List.take_of_length_le (by omega)
            simp +contextual (disch := omega) [Nat.add_assoc, Int.add_assoc, if_pos, if_neg, -Int.not_lt, -Int.not_le, -Nat.not_lt, -Nat.not_le, -List.length_flatMap, q1, hdd]
            have hb1 := mkS_bd l p q (d + 1) (i + 1)
            have hb2 : 4 ^ (d + 1 + 1) = 4 ^ (d + 2) := rfl
            have hdr : (cs ++ [V.i .i64 0, .i .i64 0, .ns]).drop 6 = [] := List.drop_of_length_le (by simp; omega)
            generalize mkS l p q (d + 1) (i + 1) = r1 at hK q2 q5 hb1
            refine openg_w law02_Maker_Level.f rfl (.inl rfl) ?_
            rw [hfL]
            refine ih d (by omega) (by omega) r1.2 (x0 := x0) (by omega) ha0 q6 (by omega) (by omega) q2 ?_
            intro cs2 m2 x3 p1 p2 p3 p4 p5 p6 p7
            have ht2 : cs2.take 3 = cs2 := List.take_of_length_le (by omega)
            have e1 := (p3 x (by omega) (by omega)).trans (q3 x (by omega) (by omega))
            simp (disch := omega) at e1
            generalize mkS l p q (d + 1) r1.2 = r2 at hK p2 p5
            simp +contextual (disch := omega) [Nat.add_assoc, Int.add_assoc, if_pos, if_neg, -Int.not_lt, -Int.not_le, -Nat.not_lt, -Nat.not_le, -List.length_flatMap, q1, p1, ht, ht2, e1, hdr]
            refine hK _ _ _ rfl (by simp +contextual (disch := omega) [Nat.add_assoc, Int.add_assoc, if_pos, if_neg, -Int.not_lt, -Int.not_le, -Nat.not_lt, -Nat.not_le, -List.length_flatMap, p2]) (fun j h1 h2 => ?_) (by omega) ?_ ((p6.set (fun _ => by simpa [innO] using innL_app q7 p7)).set (fun _ => by simp [innO, innL, V.inn, orNew]; omega)) (by simp [innL, V.inn, orNew]; omega)
            · have e2 := (p3 j (by omega) h2).trans (q3 j (by omega) h2)
              simp +contextual (disch := omega) [Nat.add_assoc, Int.add_assoc, if_pos, if_neg, -Int.not_lt, -Int.not_le, -Nat.not_lt, -Nat.not_le, -List.length_flatMap, e2]
            · have z := (q5.low (lo' := x + 1) (by omega)).up (x' := x3) (m' := m2) (by omega) (Nat.le_refl _) (fun j h1 h2 => p3 j (by omega) (by omega))
              have z2 := (z.app (p5.low (by omega))).ms (esz := 3) (n := 2) (m' := (m2.set x3 (some (.cells (cs ++ cs2) false))).set x (some (.cells [.i .i64 3, .i .i64 0, .ms x3 0 2 3] false))) (x' := x3 + 3) (a := x3) (ro := false) (cs := cs ++ cs2) (by simp +contextual (disch := omega) [Nat.add_assoc, Int.add_assoc, if_pos, if_neg, -Int.not_lt, -Int.not_le, -Nat.not_lt, -Nat.not_le, -List.length_flatMap]) (by simp +contextual (disch := omega) [Nat.add_assoc, Int.add_assoc, if_pos, if_neg, -Int.not_lt, -Int.not_le, -Nat.not_lt, -Nat.not_le, -List.length_flatMap]) (by omega) (by omega) (by omega) (by simp)
              have z3 := (FzAt.fr (m := _) (lo := x + 1) (x := x3 + 3) (k := d + 1 + 2) (cs := [.i .i64 3, .i .i64 0]) (by simp)).app z2
              rw [cL_at]
              simpa [sV] using z3.low (lo' := x) (by omega)
          · rw [if_neg hE] at hK
            simp +contextual (disch := omega) [Nat.add_assoc, Int.add_assoc, if_pos, if_neg, -Int.not_lt, -Int.not_le, -Nat.not_lt, -Nat.not_le, -List.length_flatMap, hm, hk4, hdd]
            refine openg_w law02_Maker_Level.f rfl (.inl rfl) ?_
            rw [hfL]
            refine ih d (by omega) (by omega) (i + 1) (x0 := x0) (by omega) ha0 (by repeat (first | exact hI | refine InnM.set ?_ (fun _ => rfl))) (by omega) (by omega) (by simp +contextual (disch := omega) [Nat.add_assoc, Int.add_assoc, if_pos, if_neg, -Int.not_lt, -Int.not_le, -Nat.not_lt, -Nat.not_le, -List.length_flatMap]) ?_
            intro cs m1 x2 q1 q2 q3 q4 q5 q6 q7
            have ht : cs.take 3 = cs := List.take_of_length_le (by omega)
            simp +contextual (disch := omega) [Nat.add_assoc, Int.add_assoc, if_pos, if_neg, -Int.not_lt, -Int.not_le, -Nat.not_lt, -Nat.not_le, -List.length_flatMap, q1, hdd]
            have hb1 := mkS_bd l p q (d + 1) (i + 1)
            have hb2 : 4 ^ (d + 1 + 1) = 4 ^ (d + 2) := rfl
            have hdr : (cs ++ [V.i .i64 0, .i .i64 0, .ns]).drop 6 = [] := List.drop_of_length_le (by simp; omega)
            generalize mkS l p q (d + 1) (i + 1) = r1 at hK q2 q5 hb1
            refine openg_w law02_Maker_Level.f rfl (.inl rfl) ?_
            rw [hfL]
            refine ih d (by omega) (by omega) r1.2 (x0 := x0) (by omega) ha0 q6 (by omega) (by omega) q2 ?_
            intro cs2 m2 x3 p1 p2 p3 p4 p5 p6 p7
            have ht2 : cs2.take 3 = cs2 := List.take_of_length_le (by omega)
            have e1 := (p3 x (by omega) (by omega)).trans (q3 x (by omega) (by omega))
            simp (disch := omega) at e1
            generalize mkS l p q (d + 1) r1.2 = r2 at hK p2 p5
            simp +contextual (disch := omega) [Nat.add_assoc, Int.add_assoc, if_pos, if_neg, -Int.not_lt, -Int.not_le, -Nat.not_lt, -Nat.not_le, -List.length_flatMap, q1, p1, ht, ht2, e1, hdr]
            refine hK _ _ _ rfl (by simp +contextual (disch := omega) [Nat.add_assoc, Int.add_assoc, if_pos, if_neg, -Int.not_lt, -Int.not_le, -Nat.not_lt, -Nat.not_le, -List.length_flatMap, p2]) (fun j h1 h2 => ?_) (by omega) ?_ ((p6.set (fun _ => by simpa [innO] using innL_app q7 p7)).set (fun _ => by simp [innO, innL, V.inn, orNew]; omega)) (by simp [innL, V.inn, orNew]; omega)
            · have e2 := (p3 j (by omega) h2).trans (q3 j (by omega) h2)
              simp +contextual (disch := omega) [Nat.add_assoc, Int.add_assoc, if_pos, if_neg, -Int.not_lt, -Int.not_le, -Nat.not_lt, -Nat.not_le, -List.length_flatMap, e2]
            · have z := (q5.low (lo' := x + 1) (by omega)).up (x' := x3) (m' := m2) (by omega) (Nat.le_refl _) (fun j h1 h2 => p3 j (by omega) (by omega))
              have z2 := (z.app (p5.low (by omega))).ms (esz := 3) (n := 2) (m' := (m2.set x3 (some (.cells (cs ++ cs2) false))).set x (some (.cells [.i .i64 4, .i .i64 0, .ms x3 0 2 3] false))) (x' := x3 + 3) (a := x3) (ro := false) (cs := cs ++ cs2) (by simp +contextual (disch := omega) [Nat.add_assoc, Int.add_assoc, if_pos, if_neg, -Int.not_lt, -Int.not_le, -Nat.not_lt, -Nat.not_le, -List.length_flatMap]) (by simp +contextual (disch := omega) [Nat.add_assoc, Int.add_assoc, if_pos, if_neg, -Int.not_lt, -Int.not_le, -Nat.not_lt, -Nat.not_le, -List.length_flatMap]) (by omega) (by omega) (by omega) (by simp)
              have z3 := (FzAt.fr (m := _) (lo := x + 1) (x := x3 + 3) (k := d + 1 + 2) (cs := [.i .i64 4, .i .i64 0]) (by simp)).app z2
              rw [cL_at]
              simpa [sV] using z3.low (lo' := x) (by omega)
end Pi


set_option linter.unusedSimpArgs false
set_option linter.unusedVariables false
namespace Pi
def lvlsT (l : List Nat) : Nat → Nat → List L × Nat
  | 0, i => ([], i)
  | c + 1, i => ((mkS l 3 2 2 i).1 :: (lvlsT l c (mkS l 3 2 2 i).2).1, (lvlsT l c (mkS l 3 2 2 i).2).2)
def leafT (l : List Nat) (v k i : Nat) : Tm × Nat :=
  if k < 2 then (.mk 1 (pickS l i v : Nat) [] [], i + 1)
  else if k < 3 then (.mk 2 0 [(mkS l 3 2 3 i).1] [], (mkS l 3 2 3 i).2)
  else (.mk 3 (pickS l i 4 : Nat) (lvlsT l (pickS l (i + 1) 3) (i + 2)).1 [], (lvlsT l (pickS l (i + 1) 3) (i + 2)).2)
/-- A term by numbers, and how many of them it took. -/
def mkT (l : List Nat) : Nat → Nat → Nat → Tm × Nat
  | 0, v, i => leafT l v (pickS l i 12 % 4) (i + 1)
  | d + 1, v, i =>
    if pickS l i 12 < 4 then leafT l v (pickS l i 12) (i + 1)
    else
      let r := mkT l d v (i + 1)
      if pickS l i 12 < 7 then (.mk 4 0 [] [r.1, (mkT l d v r.2).1], (mkT l d v r.2).2)
      else if pickS l i 12 < 9 then (.mk 5 0 [] [r.1, (mkT l d (v + 1) r.2).1], (mkT l d (v + 1) r.2).2)
      else if pickS l i 12 < 11 then (.mk 6 0 [] [r.1, (mkT l d (v + 1) r.2).1], (mkT l d (v + 1) r.2).2)
      else
        let s := mkT l d v r.2
        (.mk 7 0 [] [r.1, s.1, (mkT l d (v + 1) s.2).1], (mkT l d (v + 1) s.2).2)
theorem lvlsT_bd (l : List Nat) : ∀ c i, i ≤ (lvlsT l c i).2 ∧ (lvlsT l c i).2 ≤ i + 64 * c ∧ (lvlsT l c i).1.length = c
  | 0, i => by simp [lvlsT]
  | c + 1, i => by
    have h1 := mkS_bd l 3 2 2 i
    have h2 := lvlsT_bd l c (mkS l 3 2 2 i).2
    simp only [lvlsT, List.length_cons]
    omega
theorem leafT_bd (l : List Nat) (v k i : Nat) : i ≤ (leafT l v k i).2 ∧ (leafT l v k i).2 ≤ i + 260 := by
  have h1 := mkS_bd l 3 2 3 i
  have h2 := lvlsT_bd l (pickS l (i + 1) 3) (i + 2)
  have h3 := pickS_lt l (i + 1) 3 (by omega)
  unfold leafT
  split
  · simp only; omega
  · split
    · simp only; omega
    · simp only; omega
theorem mkT_bd (l : List Nat) : ∀ d v i, i ≤ (mkT l d v i).2 ∧ (mkT l d v i).2 ≤ i + 300 * 4 ^ d
  | 0, v, i => by have := leafT_bd l v (pickS l i 12 % 4) (i + 1); simp only [mkT]; omega
  | d + 1, v, i => by
    have h0 := leafT_bd l v (pickS l i 12) (i + 1)
    have h1 := mkT_bd l d v (i + 1)
    have h2 := mkT_bd l d v (mkT l d v (i + 1)).2
    have h3 := mkT_bd l d (v + 1) (mkT l d v (i + 1)).2
    have h4 := mkT_bd l d (v + 1) (mkT l d v (mkT l d v (i + 1)).2).2
    have hp : 4 ^ (d + 1) = 4 * 4 ^ d := by rw [Nat.pow_succ, Nat.mul_comm]
    have hq : 1 ≤ 4 ^ d := Nat.one_le_pow _ _ (by omega)
    simp only [mkT]
    rw [hp]
    generalize 4 ^ d = P at *
    split
    · omega
    · split
      · simp only; omega
      · split
        · simp only; omega
        · split
          · simp only; omega
          · simp only; omega
theorem level_q (l : List Nat) (hb : Byt l) (p q : Nat) (hp : p ≤ 256) (hq : q ≤ 256) (a d : Nat) (hd : d ≤ 10) (i : Nat) {m : Sto} {x : Nat} {K : QR → Prop} (hi : i + 4 ^ (d + 2) ≤ 1000000000) (ha : a < x) (hm : m a = some (.cells [sV cU l, .i .i64 i] false))
    (hK : ∀ cs ws ids x', cs.length = 3 → (m.app ws) a = some (.cells [sV cU l, .i .i64 ((mkS l p q (d + 1) i).2 : Nat)] false) → (∀ j, j < x → j ≠ a → (m.app ws) j = m j) → (∀ j, x' ≤ j → (m.app ws) j = m j) → x ≤ x' → FzAt (m.app ws) x x' (d + 2) cs (cL (mkS l p q (d + 1) i).1) → (∀ j ∈ ids, j = a ∨ (x ≤ j ∧ j < x')) → ws.map Prod.fst = ids → K ⟨.ag cs, ws, ids, x', false⟩) :
    wpQuiet ctx (.fn (.func law02_Maker_Level.n) [] []) [.p a 0, .i .i64 p, .i .i64 q, .i .i64 ((d : Int) + 1)] m x K := by
  have hz : freezeL m ([] ++ [.p a 0, .i .i64 p, .i .i64 q, .i .i64 ((d : Int) + 1)] ++ []) = some ([.rp [sV cU l, .i .i64 i], .i .i64 p, .i .i64 q, .i .i64 ((d : Int) + 1)], [a]) := by
    simp +contextual (disch := omega) [Nat.add_assoc, Int.add_assoc, if_pos, if_neg, -Int.not_lt, -Int.not_le, -Nat.not_lt, -Nat.not_le, -List.length_flatMap, hm]
  have honly : (m.only [a]) a = some (.cells [sV cU l, .i .i64 i] false) := by unfold Sto.only; rw [if_pos (by simp), hm]
  have hnone : ∀ j, x ≤ j → (m.only [a]) j = none := fun j hj => by unfold Sto.only; rw [if_neg (by simp; omega)]
  refine openr_w law02_Maker_Level.f rfl rfl rfl hz (.inl (by simp)) ?_ ?_
  · simp [reachOK, innL, V.inn, hm, innO, ha, innL_sV]
  refine law02_Maker_Level.w l hb p q hp hq a d hd i (x0 := x) (Nat.le_refl _) ha (InnM.none hnone) hi ha honly ?_
  have hxx : ∀ x', x ≤ x' → x + (x' - x) = x' := fun x' h => by omega
  intro cs m' x' h1 h2 h3 h4 h5 h6 h7
  show ReachK [a] x (.ag cs) m' x' K false
  refine ⟨by simpa [V.inn] using h7, fun j hj => ?_, fun j q1 q2 => h6 j q1, fun ws ids w1 w2 w3 => ?_⟩
  · rw [List.mem_singleton.1 hj, h2]; simp [innO, innL, V.inn, innL_sV]
  · rw [hxx _ h4]
    have s4 : ∀ j, x ≤ j → j < x' → (m.app ws) j = m' j := fun j h1 h2 => by rw [w3, if_pos ⟨h1, h2⟩]
    refine hK cs ws ids x' h1 ?_ (fun j h1 h2 => ?_) (fun j h1 => ?_) h4 (h5.wide (Nat.le_refl _) (Nat.le_refl _) s4) (fun j hj => by have := w1 j hj; simpa using this) w2
    · rw [w3, if_neg (by omega), if_pos (by simp), h2]
    · rw [w3, if_neg (by omega), if_neg (by simpa using h2)]
    · rw [w3, if_neg (by omega), if_neg (by simp; omega)]
/-- What stands behind a maker's term. -/
def MadeT (l : List Nat) (a x : Nat) (m : Sto) (r : Tm × Nat) (K : CR → Sto → Nat → Prop) : Prop :=
  ∀ cs m' x', cs.length = 4 → m' a = some (.cells [sV cU l, .i .i64 (r.2 : Nat)] false) → (∀ j, j < x → j ≠ a → m' j = m j) → x ≤ x' → FzAt m' x x' 5 cs (cT r.1) → K (.ret (.ag cs)) m' x'
theorem law13_Var.a (n : Int) : Ans ctx law13_Var.n [.i .i64 n] (.ag (cT (.mk 1 n [] []))) := by
  refine ans law13_Var.f ?_
  simp +contextual (disch := omega) [Nat.add_assoc, Int.add_assoc, if_pos, if_neg, -Int.not_lt, -Int.not_le, -Nat.not_lt, -Nat.not_le, -List.length_flatMap, law13_Var.c]
  rw [cT_of]
  simp [sV]
theorem law13_Sort.a (v : L) : Ans ctx law13_Sort.n [.ag (cL v)] (.ag (cT (.mk 2 0 [v] []))) := by
  refine ans law13_Sort.f ?_
  simp +contextual (disch := omega) [Nat.add_assoc, Int.add_assoc, if_pos, if_neg, -Int.not_lt, -Int.not_le, -Nat.not_lt, -Nat.not_le, -List.length_flatMap, law13_Sort.c]
  rw [cT_of]
  simp [sV]
theorem law13_Bind.a (k : Int) (ks : List Tm) (h : ks.length ≤ 9223372036854775807) : Ans ctx law13_Bind.n [.i .i64 k, sV cT ks] (.ag (cT (.mk k 0 [] ks))) := by
  refine ans law13_Bind.f ?_
  simp +contextual (disch := omega) [Nat.add_assoc, Int.add_assoc, if_pos, if_neg, -Int.not_lt, -Int.not_le, -Nat.not_lt, -Nat.not_le, -List.length_flatMap, law13_Bind.c]
  rw [cT_of]
  simp [sV]
end Pi

