/- Part of the proof: contracts of the program's functions. -/
import Derived.Test.YtglibfclhecbkaaCode
set_option linter.unusedSimpArgs false
set_option linter.unusedVariables false
namespace Pi
/-- A number's digits of seven bits, the least first; all but the last one have 128 more. -/
def digs (n : Nat) : List Nat := if h : n < 128 then [n] else (n % 128 + 128) :: digs (n / 128)
termination_by n
decreasing_by omega
theorem digs_len {n : Nat} : ∀ k, n < 128 ^ (k + 1) → (digs n).length ≤ k + 1 := by
  intro k
  induction k generalizing n with
  | zero => intro h; unfold digs; simp at h; simp [h]
  | succ k ih =>
    intro h
    unfold digs
    split
    · simp
    · simp only [List.length_cons]
      have := ih (n := n / 128) (by rw [Nat.div_lt_iff_lt_mul (by omega)]; rw [← Nat.pow_succ]; exact h)
      omega
/-- What Put answers. -/
def putS (n : Int) : V := if n < 0 ∨ n > 1099511627776 then .tu [.s (bs []), .i .i64 1] else .tu [.s (bs (digs n.toNat)), .i .i64 0]

theorem digs_byt (n : Nat) : Byt (digs n) := by
  induction n using digs.induct with
  | case1 n h => rw [digs, dif_pos h]; exact Byt.cons (by omega) .nil
  | case2 n h ih => rw [digs, dif_neg h]; exact Byt.cons (by omega) ih
theorem digs_ge {n : Nat} (h : 128 ≤ n) : digs n = (n % 128 + 128) :: digs (n / 128) := by rw [digs, dif_neg (by omega)]
theorem digs_lt {n : Nat} (h : n < 128) : digs n = [n] := by rw [digs, dif_pos h]

theorem ref01_Put.a (n : Int) : Ans ctx ref01_Put.n [.i .i64 n] (putS n) := by
  refine ans ref01_Put.f ?_
  unfold putS
  simp +contextual (disch := omega) [Nat.add_assoc, Int.add_assoc, if_pos, if_neg, -Int.not_lt, -Int.not_le, -Nat.not_lt, -Nat.not_le, ref01_Put.c]
  intro h0 h1
  obtain ⟨k0, rfl⟩ : ∃ k : Nat, n = k := ⟨n.toNat, by omega⟩
  have hlen : (digs k0).length ≤ 6 := digs_len 5 (by omega)
  refine while_w (fun k e m x => ∃ o, e 0 = .i .i64 (k : Nat) ∧ e 4 = .s (bs o) ∧ e 3 = .i .i64 0 ∧ k ≤ 1099511627776 ∧ o ++ digs k = digs k0) k0 ?_ ?_
  · refine ⟨[], ?_⟩
    simp +contextual (disch := omega) [Nat.add_assoc, Int.add_assoc, if_pos, if_neg, -Int.not_lt, -Int.not_le, -Nat.not_lt, -Nat.not_le]
    omega
  · rintro k e m x ⟨o, g1, g2, g3, g4, g5⟩
    by_cases hk : 128 ≤ k
    · rw [digs_ge hk] at g5
      have hol := congrArg List.length g5
      simp at hol
      simp +contextual (disch := omega) [Nat.add_assoc, Int.add_assoc, if_pos, if_neg, -Int.not_lt, -Int.not_le, -Nat.not_lt, -Nat.not_le, ref01_Put.b1, g1, g2, g3, Int.tmod_eq_emod_of_nonneg, Int.tdiv_eq_ediv_of_nonneg]
      exact ⟨k / 128, by omega, by omega, _, rfl, by omega, by rw [← g5]; simp; omega⟩
    · rw [digs_lt (by omega)] at g5
      have hol := congrArg List.length g5
      simp at hol
      simp +contextual (disch := omega) [Nat.add_assoc, Int.add_assoc, if_pos, if_neg, -Int.not_lt, -Int.not_le, -Nat.not_lt, -Nat.not_le, ref01_Put.b1, g1, g2, g3]
      rw [g5]

theorem and127 {a : Int} (h : 0 ≤ a) (h' : a < 18446744073709551616) : bin .and (.i .u64 a) (.i .u64 127) = some (.i .u64 (a % 128)) := by
  obtain ⟨k, rfl⟩ : ∃ k : Nat, a = k := ⟨a.toNat, by omega⟩
  simp only [bin, binI, if_true]
  congr 2
  have h1 : (BitVec.ofInt 64 (k : Int) &&& BitVec.ofInt 64 127).toNat = k % 128 := by
    rw [BitVec.toNat_and]
    have e1 : (BitVec.ofInt 64 (k : Int)).toNat = k := by simp [BitVec.toNat_ofInt]; omega
    have e2 : (BitVec.ofInt 64 127).toNat = 127 := by decide
    rw [e1, e2]
    exact Nat.and_two_pow_sub_one_eq_mod k 7
  have e3 : Go.IntKind.u64.bits = 64 := rfl
  rw [e3, h1]
  exact u64w (by omega) (by omega)
theorem shr7 {a : Int} (q : Go.IntKind) : bin .shr (.i .u64 a) (.i q 7) = some (.i .u64 (a / 128)) := by
  simp only [bin]
  rw [if_neg (by omega)]
  rw [show (2 : Int) ^ min (Int.toNat 7) Go.IntKind.u64.bits = 128 from rfl, Int.fdiv_eq_ediv_of_nonneg _ (by omega)]
theorem or128 {a : Int} (h : 0 ≤ a) (h' : a < 128) : bin .or (.i .u8 a) (.i .u8 128) = some (.i .u8 (a + 128)) := by
  have : ∀ d : Fin 128, Go.IntKind.u8.wrap ((BitVec.ofInt 8 ((d.val : Nat) : Int) ||| BitVec.ofInt 8 128).toNat : Nat) = (d.val : Int) + 128 := by decide
  obtain ⟨d, rfl⟩ : ∃ k : Nat, a = k := ⟨a.toNat, by omega⟩
  show some (V.i .u8 (Go.IntKind.u8.wrap ((BitVec.ofInt 8 ((d : Nat) : Int) ||| BitVec.ofInt 8 128).toNat : Nat))) = _
  rw [this ⟨d, by omega⟩]
attribute [simp] and127 shr7 or128

theorem octet_Put.a (n : Int) : Ans ctx octet_Put.n [.i .i64 n] (putS n) := by
  refine ans octet_Put.f ?_
  unfold putS
  simp +contextual (disch := omega) [Nat.add_assoc, Int.add_assoc, if_pos, if_neg, -Int.not_lt, -Int.not_le, -Nat.not_lt, -Nat.not_le, octet_Put.c]
  intro h0 h1
  obtain ⟨k0, rfl⟩ : ∃ k : Nat, n = k := ⟨n.toNat, by omega⟩
  have hlen : (digs k0).length ≤ 6 := digs_len 5 (by omega)
  refine open_w octet_digits.f rfl (.inl rfl) ?_
  simp +contextual (disch := omega) [Nat.add_assoc, Int.add_assoc, if_pos, if_neg, -Int.not_lt, -Int.not_le, -Nat.not_lt, -Nat.not_le, octet_digits.c]
  refine gen_e (fun E => E 4 = .p 8 0 ∧ E 15 = .fn (.func octet_digits_1.n) [] [.p 11 0]) (by simp +contextual (disch := omega) [Nat.add_assoc, Int.add_assoc, if_pos, if_neg, -Int.not_lt, -Int.not_le, -Nat.not_lt, -Nat.not_le]) ?_
  rintro E ⟨E1, E2⟩
  refine rf_w ?_
  simp +contextual (disch := omega) [Nat.add_assoc, Int.add_assoc, if_pos, if_neg, -Int.not_lt, -Int.not_le, -Nat.not_lt, -Nat.not_le, E2]
  refine open_w octet_digits_1.f rfl (.inr (by simp +contextual (disch := omega) [Nat.add_assoc, Int.add_assoc, if_pos, if_neg, -Int.not_lt, -Int.not_le, -Nat.not_lt, -Nat.not_le])) ?_
  simp +contextual (disch := omega) [Nat.add_assoc, Int.add_assoc, if_pos, if_neg, -Int.not_lt, -Int.not_le, -Nat.not_lt, -Nat.not_le, octet_digits_1.c]
  refine while_w (fun k e m x => ∃ B o, e 0 = .fn (.yield 16) [] [] ∧ e 1 = .p 11 0 ∧ m 11 = some (.cells [.i .u64 (k : Nat)] false) ∧ m 15 = some .dfr ∧
    m 16 = some (.loop ⟨E, [16, 17], octet_Put.a1, octet_Put.b2, .ready, none⟩) ∧ m 8 = some (.cells [B] false) ∧ Bf m B cU 1 o 17 x ∧ 17 ≤ x ∧ k ≤ 1099511627776 ∧ o ++ digs k = digs k0) k0 ?_ ?_
  · refine ⟨.ns, [], ?_⟩
    simp +contextual (disch := omega) [Nat.add_assoc, Int.add_assoc, if_pos, if_neg, -Int.not_lt, -Int.not_le, -Nat.not_lt, -Nat.not_le, Bf.nil]
    omega
  · rintro k e m x ⟨B, o, g1, g2, g3, g4, g5, g6, g7, g8, gk, g9⟩
    by_cases hk : 128 ≤ k
    · rw [digs_ge hk] at g9
      have hol := congrArg List.length g9
      simp at hol
      simp +contextual (disch := omega) [Nat.add_assoc, Int.add_assoc, if_pos, if_neg, -Int.not_lt, -Int.not_le, -Nat.not_lt, -Nat.not_le, octet_digits_1.b1, g1, g2, g3, g4, g5]
      refine yield_w g5 rfl rfl ?_
      simp +contextual (disch := omega) [Nat.add_assoc, Int.add_assoc, if_pos, if_neg, -Int.not_lt, -Int.not_le, -Nat.not_lt, -Nat.not_le, octet_Put.a1, octet_Put.b2, g5, g6, E1]
      refine g7.ap [k % 128 + 128] (by simp +contextual (disch := omega) [Nat.add_assoc, Int.add_assoc, if_pos, if_neg, -Int.not_lt, -Int.not_le, -Nat.not_lt, -Nat.not_le]) (by omega) (by omega) (by simp [cU]) rfl (by simp; omega) ?_
      intro B' ws m2 q0 q1 q2 q3
      simp +contextual (disch := omega) [Nat.add_assoc, Int.add_assoc, if_pos, if_neg, -Int.not_lt, -Int.not_le, -Nat.not_lt, -Nat.not_le, q0, g1, g2, g3, g4, g5, g6, q2, E1, q1.stor, q1.cells]
      refine ⟨k / 128, by omega, by simp, o ++ [k % 128 + 128], q1.up (by omega) (fun j h1 h2 => ?_), by omega, by rw [← g9]; simp⟩
      simp +contextual (disch := omega) [Nat.add_assoc, Int.add_assoc, if_pos, if_neg, -Int.not_lt, -Int.not_le, -Nat.not_lt, -Nat.not_le]
    · rw [digs_lt (by omega)] at g9
      have hol := congrArg List.length g9
      simp at hol
      simp +contextual (disch := omega) [Nat.add_assoc, Int.add_assoc, if_pos, if_neg, -Int.not_lt, -Int.not_le, -Nat.not_lt, -Nat.not_le, octet_digits_1.b1, g1, g2, g3, g4, g5]
      refine yield_w g5 rfl rfl ?_
      simp +contextual (disch := omega) [Nat.add_assoc, Int.add_assoc, if_pos, if_neg, -Int.not_lt, -Int.not_le, -Nat.not_lt, -Nat.not_le, octet_Put.a1, octet_Put.b2, g5, g6, E1]
      refine g7.ap [k] (by simp +contextual (disch := omega) [Nat.add_assoc, Int.add_assoc, if_pos, if_neg, -Int.not_lt, -Int.not_le, -Nat.not_lt, -Nat.not_le]) (by omega) (by omega) (by simp [cU]) rfl (by simp; omega) ?_
      intro B' ws m2 q0 q1 q2 q3
      simp +contextual (disch := omega) [Nat.add_assoc, Int.add_assoc, if_pos, if_neg, -Int.not_lt, -Int.not_le, -Nat.not_lt, -Nat.not_le, q0, g1, g2, g3, g4, g5, g6, q2, E1, q1.stor, q1.cells]
      rw [q1.sl (by simp +contextual (disch := omega) [Nat.add_assoc, Int.add_assoc, if_pos, if_neg, -Int.not_lt, -Int.not_le, -Nat.not_lt, -Nat.not_le])]
      simp +contextual (disch := omega) [Nat.add_assoc, Int.add_assoc, if_pos, if_neg, -Int.not_lt, -Int.not_le, -Nat.not_lt, -Nat.not_le, g4, g9, q2]
end Pi
