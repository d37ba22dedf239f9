/- Part of the proof: contracts of the program's functions. -/
import Derived.Test.YtglibfclhecbkaaC01b
set_option linter.unusedSimpArgs false
set_option linter.unusedVariables false
namespace Pi
/-! What Get tells of what Put writes, and back. -/
theorem getR_digs (n : Nat) : ∀ (k a : Nat) (r : List Nat), k + (digs n).length ≤ 6 → (k = 0 ∨ n ≠ 0) → a + n * 128 ^ k ≤ 1099511627776 → getR (digs n ++ r) k a = (a + n * 128 ^ k, k + (digs n).length, 0) := by
  induction n using digs.induct with
  | case1 n h =>
    intro k a r h1 h2 h3
    rw [digs_lt h] at h1 ⊢
    simp only [List.length_cons, List.length_nil] at h1
    simp only [List.cons_append, List.nil_append, getR, List.length_cons, List.length_nil]
    rw [if_neg (by omega), if_pos h, if_neg (by omega)]
  | case2 n h ih =>
    intro k a r h1 h2 h3
    rw [digs_ge (by omega)] at h1 ⊢
    simp only [List.length_cons] at h1
    simp only [List.cons_append, getR, List.length_cons]
    rw [if_neg (by omega), if_neg (by omega)]
    have e1 : (n % 128 + 128) % 128 = n % 128 := by omega
    have e2 : a + n % 128 * 128 ^ k + n / 128 * 128 ^ (k + 1) = a + n * 128 ^ k := by
      have : n = n % 128 + 128 * (n / 128) := by omega
      calc a + n % 128 * 128 ^ k + n / 128 * 128 ^ (k + 1) = a + (n % 128 + 128 * (n / 128)) * 128 ^ k := by
            rw [Nat.pow_succ, Nat.add_mul, ← Nat.add_assoc, Nat.mul_comm 128 (n / 128), Nat.mul_assoc, Nat.mul_comm 128 (128 ^ k)]
        _ = a + n * 128 ^ k := by rw [← this]
    rw [e1, ih (k + 1) _ r (by omega) (by omega) (by rw [e2]; exact h3), e2]
    simp only [Prod.mk.injEq, true_and, and_true]
    omega
theorem getR_ok : ∀ (l : List Nat) (k a n c : Nat), Byt l → getR l k a = (n, c, 0) → ∃ v, n = a + v * 128 ^ k ∧ k < c ∧ c - k ≤ l.length ∧ l.take (c - k) = digs v ∧ (k > 0 → v ≠ 0) ∧ n ≤ 1099511627776
  | [], k, a, n, c, hl, h => by simp [getR] at h
  | b :: r, k, a, n, c, hl, h => by
    rw [getR] at h
    have hb := hl b (by simp)
    split at h
    · simp at h
    · rename_i h1
      split at h
      · rename_i h2
        split at h
        · simp at h
        · rename_i h3
          simp only [Prod.mk.injEq, and_true] at h
          obtain ⟨rfl, rfl⟩ := h
          refine ⟨b, rfl, by omega, by simp, ?_, by omega, by omega⟩
          rw [digs_lt h2]
          simp
      · rename_i h2
        obtain ⟨v, q1, q2, q3, q4, q5, q6⟩ := getR_ok r (k + 1) _ n c (fun x hx => hl x (by simp [hx])) h
        refine ⟨b % 128 + 128 * v, ?_, by omega, ?_, ?_, ?_, q6⟩
        · rw [q1, Nat.pow_succ, Nat.add_mul, ← Nat.add_assoc, Nat.mul_comm 128 v, Nat.mul_assoc, Nat.mul_comm 128 (128 ^ k)]
        · simp only [List.length_cons]; omega
        · have hv := q5 (by omega)
          rw [digs_ge (by omega), show (b % 128 + 128 * v) % 128 + 128 = b by omega, show (b % 128 + 128 * v) / 128 = v by omega, ← q4, show c - k = (c - (k + 1)) + 1 by omega, List.take_succ_cons]
        · intro _
          have := q5 (by omega)
          omega
theorem getR_bad : ∀ (l : List Nat) (k a : Nat), (getR l k a).2.2 = 0 ∨ (getR l k a = (0, 0, 20)) ∨ (getR l k a = (0, 0, 21))
  | [], k, a => .inr (.inr rfl)
  | b :: r, k, a => by
    rw [getR]
    split
    · exact .inr (.inl rfl)
    · split
      · split
        · exact .inr (.inl rfl)
        · exact .inl rfl
      · exact getR_bad r _ _
theorem getS_le (l : List Nat) (p : Int) : True := trivial

set_option maxRecDepth 100000 in
theorem law01_awake.a : Ans ctx law01_awake.n [] (.b true) := ans_told (n := 300) (by kernel_rfl)

theorem law01_get.a (l : List Nat) (p : Int) (hl : Byt l) (hn : l.length ≤ 1000) : Ans ctx law01_get.n [.s (bs l), .i .i64 p] (.b true) := by
  refine ans law01_get.f ?_
  simp +contextual (disch := omega) [Nat.add_assoc, Int.add_assoc, if_pos, if_neg, -Int.not_lt, -Int.not_le, -Nat.not_lt, -Nat.not_le, law01_get.c, ansK (octet_Get.a l p hl hn), ansK (ref01_Get.a l p hl hn), t3]

theorem law01_OctetGet.a (t : ByteArray) (p : Int) : Ans ctx law01_OctetGet.n [.s t, .i .i64 p] (.b true) := by
  obtain ⟨l, rfl, hl⟩ := bs_of t
  refine ans law01_OctetGet.f ?_
  simp +contextual (disch := omega) [Nat.add_assoc, Int.add_assoc, if_pos, if_neg, -Int.not_lt, -Int.not_le, -Nat.not_lt, -Nat.not_le, law01_OctetGet.c, ansK law01_awake.a]
  intro h
  have hg := fun (p : Int) (P : V → Prop) => ansK (law01_get.a l p hl (by omega)) (P := P)
  refine while_w (fun k e m x => ∃ i : Nat, e 0 = .s (bs l) ∧ e 1 = .i .i64 p ∧ e 5 = .i .i64 i ∧ k = 30 - i ∧ i ≤ 30) 30 ?_ ?_
  · exact ⟨0, by simp +contextual (disch := omega) [Nat.add_assoc, Int.add_assoc, if_pos, if_neg, -Int.not_lt, -Int.not_le, -Nat.not_lt, -Nat.not_le]⟩
  · rintro k e m x ⟨i, g1, g2, g3, rfl, g4⟩
    simp +contextual (disch := omega) [Nat.add_assoc, Int.add_assoc, if_pos, if_neg, -Int.not_lt, -Int.not_le, -Nat.not_lt, -Nat.not_le, law01_OctetGet.b1, g1, g2, g3, hg, ansK law01_awake.a, ansK (octet_Sum.a l hl (by omega)), ansK (ref01_Sum.a l hl (by omega))]
    intro h1 h2
    exact ⟨30 - (i + 1), by omega, i + 1, by omega, by omega, by omega⟩

/-- Bytes that are nearly numbers. -/
def nearB (b : Nat) : Nat := [0, 1, 127, 128, 129, 255, 8, 136].getD (b % 8) 0
theorem law01_OctetSmall.a (l : List Nat) (hl : l.length ≤ 9223372036854775807) (hb0 : Byt l) : Ans ctx law01_OctetSmall.n [sV cU l] (.b true) := by
  refine ans law01_OctetSmall.f ?_
  simp +contextual (disch := omega) [Nat.add_assoc, Int.add_assoc, if_pos, if_neg, -Int.not_lt, -Int.not_le, -Nat.not_lt, -Nat.not_le, law01_OctetSmall.c, ansK law01_awake.a]
  refine while_w (fun k e m x => ∃ (i : Nat) (o : List Nat), e 0 = sV cU l ∧ e 3 = .s (bs o) ∧ e 4 = .i .i64 i ∧ k = 8 - i ∧ i ≤ 8 ∧ o.length = i ∧ Byt o) 8 ?_ ?_
  · exact ⟨0, [], by simp +contextual (disch := omega) [Nat.add_assoc, Int.add_assoc, if_pos, if_neg, -Int.not_lt, -Int.not_le, -Nat.not_lt, -Nat.not_le, Byt.nil]⟩
  · rintro k e m x ⟨i, o, g1, g2, g3, rfl, g4, g5, g6⟩
    have h1 := fun (p : Int) (P : V → Prop) => ansK (law01_get.a o p g6 (by omega)) (P := P)
    have h2 := fun (p : Int) (P : V → Prop) => ansK (law01_get.a (o ++ [1]) p (g6.app (Byt.cons (by omega) .nil)) (by simp; omega)) (P := P)
    have h3 := fun (p : Int) (P : V → Prop) => ansK (law01_get.a (128 :: o) p (Byt.cons (by omega) g6) (by simp; omega)) (P := P)
    by_cases hi : i < l.length ∧ i < 8
    · obtain ⟨hi1, hi2⟩ := hi
      generalize hb : l[i] = b
      have hb1 := hb0.at hi1
      rw [hb] at hb1
      obtain ⟨c, hc1, hc2⟩ : ∃ c : Nat, c < 256 ∧ [V.i .u8 0, V.i .u8 1, V.i .u8 127, V.i .u8 128, V.i .u8 129, V.i .u8 255, V.i .u8 8, V.i .u8 136][((b : Int) % 8).toNat]? = some (.i .u8 c) := by
        rcases (by omega : (b : Int) % 8 = 0 ∨ (b : Int) % 8 = 1 ∨ (b : Int) % 8 = 2 ∨ (b : Int) % 8 = 3 ∨ (b : Int) % 8 = 4 ∨ (b : Int) % 8 = 5 ∨ (b : Int) % 8 = 6 ∨ (b : Int) % 8 = 7) with h | h | h | h | h | h | h | h
        all_goals rw [h]; exact ⟨_, by decide, rfl⟩
      simp +contextual (disch := omega) [Nat.add_assoc, Int.add_assoc, if_pos, if_neg, -Int.not_lt, -Int.not_le, -Nat.not_lt, -Nat.not_le, law01_OctetSmall.b1, g1, g2, g3, hi1, hb, Int.tmod_eq_emod_of_nonneg, hc2]
      exact ⟨8 - (i + 1), by omega, i + 1, o ++ [c], rfl, by omega, rfl, by omega, by simp; omega, g6.app (Byt.cons hc1 .nil)⟩
    · simp +contextual (disch := omega) [Nat.add_assoc, Int.add_assoc, if_pos, if_neg, -Int.not_lt, -Int.not_le, -Nat.not_lt, -Nat.not_le, law01_OctetSmall.b1, g1, g2, g3, h1, h2, h3, ansK law01_awake.a]
theorem and40 {a : Int} : bin .and (.i .i64 a) (.i .i64 1099511627775) = some (.i .i64 (a % 1099511627776)) := by
  simp only [bin, binI, if_true]
  congr 2
  have h1 : (BitVec.ofInt 64 a &&& BitVec.ofInt 64 1099511627775).toNat = (a % 1099511627776).toNat := by
    rw [BitVec.toNat_and]
    have e2 : (BitVec.ofInt 64 1099511627775).toNat = 2 ^ 40 - 1 := by decide
    rw [e2, Nat.and_two_pow_sub_one_eq_mod, BitVec.toNat_ofInt]
    have : (2 : Nat) ^ 40 = 1099511627776 := by decide
    have : (2 : Nat) ^ 64 = 18446744073709551616 := by decide
    omega
  have e3 : Go.IntKind.i64.bits = 64 := rfl
  rw [e3, h1, i64w (by omega) (by omega)]
  omega
theorem law01_OctetBack.a (n : Int) (s t : ByteArray) (hs : s.size + t.size ≤ 9223372036854775807) : Ans ctx law01_OctetBack.n [.i .i64 n, .s s, .s t] (.b true) := by
  obtain ⟨a, rfl, ha⟩ := bs_of s
  obtain ⟨b, rfl, hb⟩ := bs_of t
  simp at hs
  refine ans law01_OctetBack.f ?_
  obtain ⟨k, hk⟩ : ∃ k : Nat, n % 1099511627776 = k := ⟨(n % 1099511627776).toNat, by omega⟩
  have hk2 : k < 1099511627776 := by omega
  have hp : putS (k : Int) = .tu [.s (bs (digs k)), .i .i64 0] := by unfold putS; rw [if_neg (by omega)]; simp
  have hlen : (digs k).length ≤ 6 := digs_len 5 (by omega)
  have hpos : 1 ≤ (digs k).length := by
    rw [digs]
    split <;> simp
  have hg : ∀ a b : List Nat, Byt a → Byt b → a.length + b.length ≤ 100 → ∀ P, AnsK ctx octet_Get.n [.s (bs (a ++ (digs k ++ b))), .i .i64 a.length] P = P (t3 (k, a.length + (digs k).length, 0)) := by
    intro a b ha hb hl P
    rw [ansK (octet_Get.a _ _ (ha.app ((digs_byt k).app hb)) (by simp; omega))]
    have := getR_digs k 0 0 b (by omega) (.inl rfl) (by omega)
    unfold getS
    rw [if_neg (by simp; omega)]
    simp [this]
  have hg0 : ∀ P, AnsK ctx octet_Get.n [.s (bs (digs k)), .i .i64 0] P = P (t3 (k, (digs k).length, 0)) := by simpa using hg [] [] .nil .nil (by simp)
  simp +contextual (disch := omega) [Nat.add_assoc, Int.add_assoc, if_pos, if_neg, -Int.not_lt, -Int.not_le, -Nat.not_lt, -Nat.not_le, law01_OctetBack.c, ansK law01_awake.a, and40, ansK (octet_Put.a _), hk, hp]
  refine ⟨fun h => ?_, fun h => ?_⟩
  · simp +contextual (disch := omega) [Nat.add_assoc, Int.add_assoc, if_pos, if_neg, -Int.not_lt, -Int.not_le, -Nat.not_lt, -Nat.not_le, hg0, t3]
    omega
  · have hg1 := hg a b ha hb (by omega)
    simp +contextual (disch := omega) [Nat.add_assoc, Int.add_assoc, if_pos, if_neg, -Int.not_lt, -Int.not_le, -Nat.not_lt, -Nat.not_le, hg1, t3]
    omega
theorem law01_OctetOnce.a (s : ByteArray) (k : Nat) (hk : k < 256) : Ans ctx law01_OctetOnce.n [.s s, .i .u8 k] (.b true) := by
  obtain ⟨a, rfl, ha⟩ := bs_of s
  refine ans law01_OctetOnce.f ?_
  simp +contextual (disch := omega) [Nat.add_assoc, Int.add_assoc, if_pos, if_neg, -Int.not_lt, -Int.not_le, -Nat.not_lt, -Nat.not_le, law01_OctetOnce.c, ansK law01_awake.a]
  intro h0 h1
  have hpos : 0 < a.length := List.length_pos_iff.2 h0
  have hn : a.length ≤ 1000 := by omega
  have hg := fun (p : Int) (P : V → Prop) => ansK (octet_Get.a a p ha hn) (P := P)
  obtain ⟨j, hj⟩ : ∃ j : Nat, (k : Int) % a.length = j := ⟨((k : Int) % a.length).toNat, by have := Int.emod_nonneg k (by omega : (a.length : Int) ≠ 0); omega⟩
  have hjl : j < a.length := by have := Int.emod_lt_of_pos k (by omega : (0 : Int) < a.length); omega
  have hs : getS a j = (let r := getR (a.drop j) 0 0; (r.1, if r.2.2 = 0 then j + r.2.1 else 0, r.2.2)) := by
    unfold getS
    rw [if_neg (by omega)]
    simp
  have hbad := getR_bad (a.drop j) 0 0
  generalize hr : getR (a.drop j) 0 0 = r at hs hbad
  obtain ⟨v, c, e⟩ := r
  by_cases he : e = 0
  · subst he
    obtain ⟨v', q1, q2, q3, q4, q5, q6⟩ := getR_ok _ _ _ _ _ (ha.drop j) hr
    simp only [Nat.pow_zero, Nat.mul_one, Nat.zero_add, Nat.sub_zero, List.length_drop] at q1 q3 q4
    subst q1
    have hp : putS (v : Int) = .tu [.s (bs (digs v)), .i .i64 0] := by unfold putS; rw [if_neg (by omega)]; simp
    have hjc : j + c - j = c := by omega
    have hc1 : ((j : Int) + c).toNat = j + c := by omega
    simp +contextual (disch := omega) [Nat.add_assoc, Int.add_assoc, if_pos, if_neg, -Int.not_lt, -Int.not_le, -Nat.not_lt, -Nat.not_le, hg, Int.tmod_eq_emod_of_nonneg, hj, hs, t3, ansK (octet_Put.a _), hp, hjc, q4, hc1]
  · have : v = 0 ∧ c = 0 ∧ (e = 20 ∨ e = 21) := by
      rcases hbad with h | h | h
      · exact absurd h he
      · simp at h; omega
      · simp at h; omega
    obtain ⟨rfl, rfl, h⟩ := this
    rcases h with rfl | rfl
    · simp +contextual (disch := omega) [Nat.add_assoc, Int.add_assoc, if_pos, if_neg, -Int.not_lt, -Int.not_le, -Nat.not_lt, -Nat.not_le, hg, Int.tmod_eq_emod_of_nonneg, hj, hs, t3]
    · simp +contextual (disch := omega) [Nat.add_assoc, Int.add_assoc, if_pos, if_neg, -Int.not_lt, -Int.not_le, -Nat.not_lt, -Nat.not_le, hg, Int.tmod_eq_emod_of_nonneg, hj, hs, t3]
end Pi
