/- Atoms, clauses: how they fill cells. -/
import Derived.Test.YtbkkigmlkafeiaaCode
import Derived.Test.YtbkkigmlkafeiaaEnc
import Derived.Test.YtbkkigmlkafeiaaFw4
set_option linter.unusedSimpArgs false
set_option linter.unusedVariables false
namespace Pi
/-- A number's digits of seven bits, the least first; all but the last one have 128 more. -/
def digs (n : Nat) : List Nat := if h : n < 128 then [n] else (n % 128 + 128) :: digs (n / 128)
termination_by n
decreasing_by omega
theorem digs_len {n : Nat} : ∀ k, n < 128 ^ (k + 1) → (digs n).length ≤ k + 1 := by
  intro k
  induction k generalizing n with
  | zero => intro h; unfold digs; simp at h; simp [h]
  | succ k ih =>
    intro h
    unfold digs
    split
    · simp
    · simp only [List.length_cons]
      have := ih (n := n / 128) (by rw [Nat.div_lt_iff_lt_mul (by omega)]; rw [← Nat.pow_succ]; exact h)
      omega
/-- What Put answers. -/
def putS (n : Int) : V := if n < 0 ∨ n > 1099511627776 then .tu [.s (bs []), .i .i64 1] else .tu [.s (bs (digs n.toNat)), .i .i64 0]

theorem digs_byt (n : Nat) : Byt (digs n) := by
  induction n using digs.induct with
  | case1 n h => rw [digs, dif_pos h]; exact Byt.cons (by omega) .nil
  | case2 n h ih => rw [digs, dif_neg h]; exact Byt.cons (by omega) ih
theorem digs_ge {n : Nat} (h : 128 ≤ n) : digs n = (n % 128 + 128) :: digs (n / 128) := by rw [digs, dif_neg (by omega)]
theorem digs_lt {n : Nat} (h : n < 128) : digs n = [n] := by rw [digs, dif_pos h]

theorem and127 {a : Int} (h : 0 ≤ a) (h' : a < 18446744073709551616) : bin .and (.i .u64 a) (.i .u64 127) = some (.i .u64 (a % 128)) := by
  obtain ⟨k, rfl⟩ : ∃ k : Nat, a = k := ⟨a.toNat, by omega⟩
  simp only [bin, binI, if_true]
  congr 2
  have h1 : (BitVec.ofInt 64 (k : Int) &&& BitVec.ofInt 64 127).toNat = k % 128 := by
    rw [BitVec.toNat_and]
    have e1 : (BitVec.ofInt 64 (k : Int)).toNat = k := by simp [BitVec.toNat_ofInt]; omega
    have e2 : (BitVec.ofInt 64 127).toNat = 127 := by decide
    rw [e1, e2]
    exact Nat.and_two_pow_sub_one_eq_mod k 7
  have e3 : Go.IntKind.u64.bits = 64 := rfl
  rw [e3, h1]
  exact u64w (by omega) (by omega)
theorem shr7 {a : Int} (q : Go.IntKind) : bin .shr (.i .u64 a) (.i q 7) = some (.i .u64 (a / 128)) := by
  simp only [bin]
  rw [if_neg (by omega)]
  rw [show (2 : Int) ^ min (Int.toNat 7) Go.IntKind.u64.bits = 128 from rfl, Int.fdiv_eq_ediv_of_nonneg _ (by omega)]
theorem or128 {a : Int} (h : 0 ≤ a) (h' : a < 128) : bin .or (.i .u8 a) (.i .u8 128) = some (.i .u8 (a + 128)) := by
  have : ∀ d : Fin 128, Go.IntKind.u8.wrap ((BitVec.ofInt 8 ((d.val : Nat) : Int) ||| BitVec.ofInt 8 128).toNat : Nat) = (d.val : Int) + 128 := by decide
  obtain ⟨d, rfl⟩ : ∃ k : Nat, a = k := ⟨a.toNat, by omega⟩
  show some (V.i .u8 (Go.IntKind.u8.wrap ((BitVec.ofInt 8 ((d : Nat) : Int) ||| BitVec.ofInt 8 128).toNat : Nat))) = _
  rw [this ⟨d, by omega⟩]
attribute [simp] and127 shr7 or128
theorem octet_Put.a (n : Int) : Ans ctx octet_Put.n [.i .i64 n] (putS n) := by
  refine ans octet_Put.f ?_
  unfold putS
  simp +contextual (disch := omega) [Nat.add_assoc, Int.add_assoc, if_pos, if_neg, -Int.not_lt, -Int.not_le, -Nat.not_lt, -Nat.not_le, -List.length_flatMap, octet_Put.c]
  intro h0 h1
  obtain ⟨k0, rfl⟩ : ∃ k : Nat, n = k := ⟨n.toNat, by omega⟩
  have hlen : (digs k0).length ≤ 6 := digs_len 5 (by omega)
  refine open_w octet_digits.f rfl (.inl rfl) ?_
  simp +contextual (disch := omega) [Nat.add_assoc, Int.add_assoc, if_pos, if_neg, -Int.not_lt, -Int.not_le, -Nat.not_lt, -Nat.not_le, -List.length_flatMap, octet_digits.c]
  refine gen_e (fun E => E 4 = .p 8 0 ∧ E 15 = .fn (.func octet_digits_1.n) [] [.p 11 0]) (by simp +contextual (disch := omega) [Nat.add_assoc, Int.add_assoc, if_pos, if_neg, -Int.not_lt, -Int.not_le, -Nat.not_lt, -Nat.not_le, -List.length_flatMap]) ?_
  rintro E ⟨E1, E2⟩
  refine rf_w ?_
  simp +contextual (disch := omega) [Nat.add_assoc, Int.add_assoc, if_pos, if_neg, -Int.not_lt, -Int.not_le, -Nat.not_lt, -Nat.not_le, -List.length_flatMap, E2]
  refine open_w octet_digits_1.f rfl (.inr (by simp +contextual (disch := omega) [Nat.add_assoc, Int.add_assoc, if_pos, if_neg, -Int.not_lt, -Int.not_le, -Nat.not_lt, -Nat.not_le, -List.length_flatMap])) ?_
  simp +contextual (disch := omega) [Nat.add_assoc, Int.add_assoc, if_pos, if_neg, -Int.not_lt, -Int.not_le, -Nat.not_lt, -Nat.not_le, -List.length_flatMap, octet_digits_1.c]
  refine while_w (fun k e m x => ∃ B o, e 0 = .fn (.yield 16) [] [] ∧ e 1 = .p 11 0 ∧ m 11 = some (.cells [.i .u64 (k : Nat)] false) ∧ m 15 = some .dfr ∧
    m 16 = some (.loop ⟨E, [16, 17], octet_Put.a1, octet_Put.b2, .ready, none⟩) ∧ m 8 = some (.cells [B] false) ∧ Bf m B cU 1 o 17 x ∧ 17 ≤ x ∧ k ≤ 1099511627776 ∧ o ++ digs k = digs k0) k0 ?_ ?_
  · refine ⟨.ns, [], ?_⟩
    simp +contextual (disch := omega) [Nat.add_assoc, Int.add_assoc, if_pos, if_neg, -Int.not_lt, -Int.not_le, -Nat.not_lt, -Nat.not_le, -List.length_flatMap, Bf.nil]
    omega
  · rintro k e m x ⟨B, o, g1, g2, g3, g4, g5, g6, g7, g8, gk, g9⟩
    by_cases hk : 128 ≤ k
    · rw [digs_ge hk] at g9
      have hol := congrArg List.length g9
      simp at hol
      simp +contextual (disch := omega) [Nat.add_assoc, Int.add_assoc, if_pos, if_neg, -Int.not_lt, -Int.not_le, -Nat.not_lt, -Nat.not_le, -List.length_flatMap, octet_digits_1.b1, g1, g2, g3, g4, g5]
      refine yield_w g5 rfl rfl ?_
      simp +contextual (disch := omega) [Nat.add_assoc, Int.add_assoc, if_pos, if_neg, -Int.not_lt, -Int.not_le, -Nat.not_lt, -Nat.not_le, -List.length_flatMap, octet_Put.a1, octet_Put.b2, g5, g6, E1]
      refine g7.ap [k % 128 + 128] (by simp +contextual (disch := omega) [Nat.add_assoc, Int.add_assoc, if_pos, if_neg, -Int.not_lt, -Int.not_le, -Nat.not_lt, -Nat.not_le, -List.length_flatMap]) (by omega) (by omega) (by simp [cU]) rfl (by simp; omega) ?_
      intro B' ws m2 q0 q1 q2 q3
      simp +contextual (disch := omega) [Nat.add_assoc, Int.add_assoc, if_pos, if_neg, -Int.not_lt, -Int.not_le, -Nat.not_lt, -Nat.not_le, -List.length_flatMap, q0, g1, g2, g3, g4, g5, g6, q2, E1, q1.stor, q1.cells]
      refine ⟨k / 128, by omega, by simp, o ++ [k % 128 + 128], q1.up (by omega) (fun j h1 h2 => ?_), by omega, by rw [← g9]; simp⟩
      simp +contextual (disch := omega) [Nat.add_assoc, Int.add_assoc, if_pos, if_neg, -Int.not_lt, -Int.not_le, -Nat.not_lt, -Nat.not_le, -List.length_flatMap]
    · rw [digs_lt (by omega)] at g9
      have hol := congrArg List.length g9
      simp at hol
      simp +contextual (disch := omega) [Nat.add_assoc, Int.add_assoc, if_pos, if_neg, -Int.not_lt, -Int.not_le, -Nat.not_lt, -Nat.not_le, -List.length_flatMap, octet_digits_1.b1, g1, g2, g3, g4, g5]
      refine yield_w g5 rfl rfl ?_
      simp +contextual (disch := omega) [Nat.add_assoc, Int.add_assoc, if_pos, if_neg, -Int.not_lt, -Int.not_le, -Nat.not_lt, -Nat.not_le, -List.length_flatMap, octet_Put.a1, octet_Put.b2, g5, g6, E1]
      refine g7.ap [k] (by simp +contextual (disch := omega) [Nat.add_assoc, Int.add_assoc, if_pos, if_neg, -Int.not_lt, -Int.not_le, -Nat.not_lt, -Nat.not_le, -List.length_flatMap]) (by omega) (by omega) (by simp [cU]) rfl (by simp; omega) ?_
      intro B' ws m2 q0 q1 q2 q3
      simp +contextual (disch := omega) [Nat.add_assoc, Int.add_assoc, if_pos, if_neg, -Int.not_lt, -Int.not_le, -Nat.not_lt, -Nat.not_le, -List.length_flatMap, q0, g1, g2, g3, g4, g5, g6, q2, E1, q1.stor, q1.cells]
      rw [q1.sl (by simp +contextual (disch := omega) [Nat.add_assoc, Int.add_assoc, if_pos, if_neg, -Int.not_lt, -Int.not_le, -Nat.not_lt, -Nat.not_le, -List.length_flatMap])]
      simp +contextual (disch := omega) [Nat.add_assoc, Int.add_assoc, if_pos, if_neg, -Int.not_lt, -Int.not_le, -Nat.not_lt, -Nat.not_le, -List.length_flatMap, g4, g9, q2]
end Pi


set_option linter.unusedSimpArgs false
set_option linter.unusedVariables false
namespace Pi
/-- What stands there: the number, how many bytes it has, the error. -/
def getR : List Nat → Nat → Nat → Nat × Nat × Nat
  | [], _, _ => (0, 0, 21)
  | b :: r, k, n =>
    if k > 0 ∧ b = 0 ∨ k > 5 then (0, 0, 20)
    else if b < 128 then (if 1099511627776 < n + b * 128 ^ k then (0, 0, 20) else (n + b * 128 ^ k, k + 1, 0))
    else getR r (k + 1) (n + b % 128 * 128 ^ k)
def getS (l : List Nat) (p : Int) : Nat × Nat × Nat := if p < 0 ∨ p > l.length then (0, 0, 1) else
  let r := getR (l.drop p.toNat) 0 0
  (r.1, if r.2.2 = 0 then p.toNat + r.2.1 else 0, r.2.2)
def t3 (r : Nat × Nat × Nat) : V := .tu [.i .i64 r.1, .i .i64 r.2.1, .i .i64 r.2.2]

set_option maxRecDepth 100000 in
theorem and127b {a : Int} (h : 0 ≤ a) (h' : a < 256) : bin .and (.i .u8 a) (.i .u8 127) = some (.i .u8 (a % 128)) := by
  obtain ⟨k, rfl⟩ : ∃ k : Nat, a = k := ⟨a.toNat, by omega⟩
  have : ∀ d : Fin 256, Go.IntKind.u8.wrap ((BitVec.ofInt 8 ((d.val : Nat) : Int) &&& BitVec.ofInt 8 127).toNat : Nat) = (d.val : Int) % 128 := by decide
  show some (V.i .u8 (Go.IntKind.u8.wrap ((BitVec.ofInt 8 ((k : Nat) : Int) &&& BitVec.ofInt 8 127).toNat : Nat))) = _
  rw [this ⟨k, by omega⟩]
attribute [simp] and127b
theorem pow7 (i : Nat) : (128 : Nat) ^ i = 2 ^ (7 * i) := by rw [Nat.pow_mul]
theorem shl7 {i u : Nat} (hi : i ≤ 6) (hu : u = 128 ^ i) (a : Int) (h : 0 ≤ a ∧ a < 128) : bin .shl (.i .u64 a) (.i .i64 (7 * (i : Int))) = some (.i .u64 (a * u)) := by
  obtain ⟨k, rfl⟩ : ∃ k : Nat, a = k := ⟨a.toNat, by omega⟩
  simp only [bin]
  rw [if_neg (by omega)]
  have e1 : min (7 * (i : Int)).toNat Go.IntKind.u64.bits = 7 * i := by
    show min (7 * (i : Int)).toNat 64 = 7 * i
    omega
  have hu' : u ≤ 4398046511104 := by
    rw [hu]
    calc (128 : Nat) ^ i ≤ 128 ^ 6 := Nat.pow_le_pow_right (by omega) hi
      _ = 4398046511104 := by decide
  have hm : k * u ≤ 127 * u := Nat.mul_le_mul_right _ (by omega)
  have e2 : (k : Int) * 2 ^ (7 * i) = ((k * u : Nat) : Int) := by
    rw [hu, pow7]
    simp
  rw [e1, e2, u64w (by omega) (by omega)]
  simp
theorem or7 {i u n d : Nat} (hi : i ≤ 5) (hu : u = 128 ^ i) (hn : n < u) (hd : d < 128) : bin .or (.i .u64 n) (.i .u64 ((d * u : Nat) : Int)) = some (.i .u64 ((n : Int) + (d * u : Nat))) := by
  have hu' : u ≤ 34359738368 := by
    rw [hu]
    calc (128 : Nat) ^ i ≤ 128 ^ 5 := Nat.pow_le_pow_right (by omega) hi
      _ = 34359738368 := by decide
  have hm : d * u ≤ 127 * u := Nat.mul_le_mul_right _ (by omega)
  simp only [bin, binI, if_true]
  congr 2
  have e3 : Go.IntKind.u64.bits = 64 := rfl
  have e1 : (BitVec.ofInt 64 (n : Int)).toNat = n := by simp [BitVec.toNat_ofInt]; omega
  have e2 : (BitVec.ofInt 64 ((d * u : Nat) : Int)).toNat = d * u := by
    generalize d * u = t at hm
    simp [BitVec.toNat_ofInt]
    omega
  rw [e3, BitVec.toNat_or, e1, e2, Nat.or_comm, hu, pow7, Nat.mul_comm d, ← Nat.two_pow_add_eq_or_of_lt (by rw [← pow7, ← hu]; exact hn), ← pow7, ← hu]
  rw [u64w (by omega) (by rw [Nat.mul_comm] at hm; omega)]
  rw [Nat.mul_comm u d]
  omega

set_option maxHeartbeats 1000000 in
theorem octet_Get.a (l : List Nat) (p : Int) (hl : Byt l) (hn : l.length ≤ 10000) : Ans ctx octet_Get.n [.s (bs l), .i .i64 p] (t3 (getS l p)) := by
  refine ans octet_Get.f ?_
  unfold getS t3
  simp +contextual (disch := omega) [Nat.add_assoc, Int.add_assoc, if_pos, if_neg, -Int.not_lt, -Int.not_le, -Nat.not_lt, -Nat.not_le, -List.length_flatMap, octet_Get.c]
  intro h0 h1
  obtain ⟨q, rfl⟩ : ∃ k : Nat, p = k := ⟨p.toNat, by omega⟩
  simp only [Int.toNat_natCast]
  have htk : (l.drop q).take (l.length - q) = l.drop q := List.take_of_length_le (by simp)
  rw [htk, ofBytes_bs (hl.drop q)]
  have hln : (l.drop q).length = l.length - q := by simp
  generalize hd : l.drop q = d at hln
  have hb := hl.drop q
  rw [hd] at hb
  generalize hR : getR d 0 0 = R
  have hdl : d.length ≤ 10000 := by omega
  have hlq : (l.length - q : Nat) = d.length := hln.symm
  have hlq' : (((l.length - q : Nat) : Int)) = d.length := by omega
  refine for_w (fun i e m x => e 1 = .i .i64 q ∧ e 21 = .ms 15 0 (l.length - q) 1 ∧ m 15 = some (.cells (d.flatMap cU) false) ∧ e 22 = .i .i64 ((l.length - q : Nat) : Int) ∧ e 23 = .i .i64 i ∧ ∃ n u : Nat, e 7 = .i .u64 n ∧ u = 128 ^ i ∧ n < u ∧ u ≤ 4398046511104 ∧ i ≤ 6 ∧ getR (d.drop i) i n = R) d.length ?_ ?_ ?_
  · refine ⟨?_, ?_, ?_, ?_, ?_, 0, 1, ?_⟩ <;> simp +contextual (disch := omega) [Nat.add_assoc, Int.add_assoc, if_pos, if_neg, -Int.not_lt, -Int.not_le, -Nat.not_lt, -Nat.not_le, -List.length_flatMap, hR]
  · rintro i e m x hi ⟨g1, g2, g3, g4, g5, n, u, g6, g7, g8, g9, g10, g11⟩
    have hbi := hb.at hi
    rw [List.drop_eq_getElem_cons hi, getR] at g11
    generalize hbb : d[i] = b at hbi g11
    clear hl hR hb
    by_cases h2 : i = 6
    · rw [if_pos (by omega)] at g11
      subst g11
      simp +contextual (disch := omega) [Nat.add_assoc, Int.add_assoc, if_pos, if_neg, -Int.not_lt, -Int.not_le, -Nat.not_lt, -Nat.not_le, -List.length_flatMap, octet_Get.b1, g1, g2, g3, g4, g5, g6, hbb, hi]
    by_cases h3 : i > 0 ∧ b = 0
    · rw [if_pos (by omega)] at g11
      subst g11
      simp +contextual (disch := omega) [Nat.add_assoc, Int.add_assoc, if_pos, if_neg, -Int.not_lt, -Int.not_le, -Nat.not_lt, -Nat.not_le, -List.length_flatMap, octet_Get.b1, g1, g2, g3, g4, g5, g6, hbb, hi, h3]
    rw [if_neg (by omega)] at g11
    have hu : u ≤ 34359738368 := by
      have : (128 : Nat) ^ i ≤ 128 ^ 5 := Nat.pow_le_pow_right (by omega) (by omega)
      omega
    rw [← g7] at g11
    have hp : u * 128 = 128 ^ (i + 1) := by rw [g7, Nat.pow_succ]
    have hm : b % 128 * u ≤ 127 * u := Nat.mul_le_mul_right _ (by omega)
    have hpi : (b : Int) % 128 * u = ((b % 128 * u : Nat) : Int) := by simp
    have hbu : b < 128 → b * u = b % 128 * u := fun h => by rw [Nat.mod_eq_of_lt h]
    have ho := or7 (d := b % 128) (by omega : i ≤ 5) g7 g8 (by omega)
    have hsh := shl7 (by omega : i ≤ 6) g7
    generalize hpp : b % 128 * u = p at hm hpi hbu g11 ho
    clear g7
    rcases (by omega : i = 0 ∨ (0 < i ∧ ¬ b = 0)) with h4 | ⟨h4, h4'⟩
    · by_cases h5 : b < 128
      · rw [if_pos h5, hbu h5] at g11
        by_cases h6 : 1099511627776 < n + p
        · rw [if_pos h6] at g11
          subst g11
          simp +contextual (disch := omega) [Nat.add_assoc, Int.add_assoc, if_pos, if_neg, -Int.not_lt, -Int.not_le, -Nat.not_lt, -Nat.not_le, -List.length_flatMap, octet_Get.b1, g1, g2, g3, g4, g5, g6, hbb, hpi, hsh, ho, hi]
        · rw [if_neg h6] at g11
          subst g11
          simp +contextual (disch := omega) [Nat.add_assoc, Int.add_assoc, if_pos, if_neg, -Int.not_lt, -Int.not_le, -Nat.not_lt, -Nat.not_le, -List.length_flatMap, octet_Get.b1, g1, g2, g3, g4, g5, g6, hbb, hpi, hsh, ho, hi]
      · rw [if_neg h5] at g11
        simp +contextual (disch := omega) [Nat.add_assoc, Int.add_assoc, if_pos, if_neg, -Int.not_lt, -Int.not_le, -Nat.not_lt, -Nat.not_le, -List.length_flatMap, octet_Get.b1, g1, g2, g3, g4, g5, g6, hbb, hpi, hsh, ho, hi]
        exact ⟨n + p, by omega, by omega, by omega, by omega, g11⟩
    · by_cases h5 : b < 128
      · rw [if_pos h5, hbu h5] at g11
        by_cases h6 : 1099511627776 < n + p
        · rw [if_pos h6] at g11
          subst g11
          simp +contextual (disch := omega) [Nat.add_assoc, Int.add_assoc, if_pos, if_neg, -Int.not_lt, -Int.not_le, -Nat.not_lt, -Nat.not_le, -List.length_flatMap, octet_Get.b1, g1, g2, g3, g4, g5, g6, hbb, hpi, hsh, ho, hi]
        · rw [if_neg h6] at g11
          subst g11
          simp +contextual (disch := omega) [Nat.add_assoc, Int.add_assoc, if_pos, if_neg, -Int.not_lt, -Int.not_le, -Nat.not_lt, -Nat.not_le, -List.length_flatMap, octet_Get.b1, g1, g2, g3, g4, g5, g6, hbb, hpi, hsh, ho, hi]
      · rw [if_neg h5] at g11
        simp +contextual (disch := omega) [Nat.add_assoc, Int.add_assoc, if_pos, if_neg, -Int.not_lt, -Int.not_le, -Nat.not_lt, -Nat.not_le, -List.length_flatMap, octet_Get.b1, g1, g2, g3, g4, g5, g6, hbb, hpi, hsh, ho, hi]
        exact ⟨n + p, by omega, by omega, by omega, by omega, g11⟩
  · rintro e m x ⟨g1, g2, g3, g4, g5, n, u, g6, g7, g8, g9, g10, g11⟩
    rw [List.drop_of_length_le (by omega), getR] at g11
    subst g11
    simp +contextual (disch := omega) [Nat.add_assoc, Int.add_assoc, if_pos, if_neg, -Int.not_lt, -Int.not_le, -Nat.not_lt, -Nat.not_le, -List.length_flatMap, octet_Get.b1, g1, g2, g3, g4, g5, g6]
end Pi


set_option linter.unusedSimpArgs false
set_option linter.unusedVariables false
namespace Pi
mutual
def nodesS (l : L) (most : Int) : Int := match l with
  | .mk _ _ ks => nodesL ks most 1
def nodesL (ks : List L) (most n : Int) : Int := match ks with
  | [] => n
  | k :: r => nodesL r most (if n < most then n + nodesS k (most - n) else n)
end
def nodesF (most n : Int) (k : L) : Int := if n < most then n + nodesS k (most - n) else n
theorem nodesL_eq (ks : List L) (most n : Int) : nodesL ks most n = ks.foldl (nodesF most) n := by
  induction ks generalizing n with
  | nil => simp [nodesL]
  | cons k r ih => simp [nodesL, ih, nodesF]
theorem nodesS_eq (l : L) (most : Int) : nodesS l most = l.kids.foldl (nodesF most) 1 := by
  cases l; simp [nodesS, nodesL_eq]
theorem nodesS_bd (l : L) : ∀ most, 1 ≤ nodesS l most ∧ (nodesS l most ≤ most ∨ nodesS l most = 1) := by
  induction l using L.ind with
  | h l ih =>
    intro most
    rw [nodesS_eq]
    refine fold_inv (P := fun n => 1 ≤ n ∧ (n ≤ most ∨ n = 1)) (fun n k hk hn => ?_) ⟨by omega, .inr rfl⟩
    have := ih k hk (most - n)
    unfold nodesF
    split <;> omega
theorem level_nodes.a (l : L) : l.Ok → ∀ most, -1000 < most → most < 1000 → Ans ctx level_nodes.n [.ag (cL l), .i .i64 most] (.i .i64 (nodesS l most)) := by
  induction l using L.ind with
  | h l ih =>
  intro ok most h1 h2
  have hlen := ok.len
  refine ans level_nodes.f ?_
  simp +contextual (disch := omega) [Nat.add_assoc, Int.add_assoc, if_pos, if_neg, -Int.not_lt, -Int.not_le, -Nat.not_lt, -Nat.not_le, -List.length_flatMap, level_nodes.c]
  refine for_w (fun i e m x => e 1 = .i .i64 most ∧ e 9 = sV cL l.kids ∧ e 10 = .i .i64 l.kids.length ∧ e 11 = .i .i64 i ∧ ∃ n, e 5 = .i .i64 n ∧ (l.kids.take i).foldl (nodesF most) 1 = n ∧ 1 ≤ n ∧ (n ≤ most ∨ n = 1)) l.kids.length ?_ ?_ ?_
  · simp
  · rintro i e m x hi ⟨g1, g2, g3, g4, n, g5, g6, g7, g8⟩
    have hk := ih l.kids[i] (List.getElem_mem hi) (ok.at hi)
    have hb := nodesS_bd l.kids[i] (most - n)
    simp +contextual (disch := omega) [Nat.add_assoc, Int.add_assoc, if_pos, if_neg, -Int.not_lt, -Int.not_le, -Nat.not_lt, -Nat.not_le, -List.length_flatMap, level_nodes.b1, hi, g1, g2, g3, g4, g5, g6, ansK (hk _ _ _), take_fold, nodesF, IfK]
    omega
  · rintro e m x ⟨g1, g2, g3, g4, n, g5, g6, g7, g8⟩
    simp +contextual (disch := omega) [Nat.add_assoc, Int.add_assoc, if_pos, if_neg, -Int.not_lt, -Int.not_le, -Nat.not_lt, -Nat.not_le, -List.length_flatMap, level_nodes.b1, g1, g2, g3, g4, g5]
    simpa [nodesS_eq] using g6.symm
end Pi


set_option linter.unusedSimpArgs false
set_option linter.unusedVariables false
namespace Pi
structure A where
  var : Int
  off : Int
  deriving Inhabited, DecidableEq
def cA (a : A) : List V := [.i .i64 a.var, .i .i64 a.off]
@[simp] theorem cA_len (a : A) : (cA a).length = 2 := rfl
@[simp] theorem cA_fz (a : A) (D : Nat → Option (Bool × List V × List V × List Nat)) : frzL D (cA a) = some (cA a, []) := by simp [cA]
instance : Cel cA 2 := ⟨cA_len, by decide, cA_fz⟩
@[simp] theorem cA_0 (a : A) : (cA a)[0]? = some (.i .i64 a.var) := rfl
@[simp] theorem cA_1 (a : A) : (cA a)[1]? = some (.i .i64 a.off) := rfl
@[simp] theorem cA_take (a : A) : (cA a).take 2 = cA a := rfl
@[simp] theorem cA_drop (a : A) : (cA a).drop 2 = [] := rfl
structure C where
  frm : List A
  to : A
  deriving Inhabited, DecidableEq
def cC (c : C) : List V := [sV cA c.frm, .i .i64 c.to.var, .i .i64 c.to.off]
@[simp] theorem cC_len (c : C) : (cC c).length = 3 := rfl
@[simp] theorem cC_fz (c : C) (D : Nat → Option (Bool × List V × List V × List Nat)) : frzL D (cC c) = some (cC c, []) := by simp [cC]
instance : Cel cC 3 := ⟨cC_len, by decide, cC_fz⟩
@[simp] theorem cC_0 (c : C) : (cC c)[0]? = some (sV cA c.frm) := rfl
@[simp] theorem cC_1 (c : C) : (cC c)[1]? = some (.i .i64 c.to.var) := rfl
@[simp] theorem cC_2 (c : C) : (cC c)[2]? = some (.i .i64 c.to.off) := rfl
@[simp] theorem cC_take (c : C) : (cC c).take 3 = cC c := rfl
@[simp] theorem cC_drop (c : C) : (cC c).drop 3 = [] := rfl
@[simp] theorem cC_tail (c : C) : (cC c).tail = cA c.to := rfl
@[simp] theorem cA_drop0 (a : A) : (cA a).tail = [.i .i64 a.off] := rfl
end Pi


set_option linter.unusedSimpArgs false
set_option linter.unusedVariables false
namespace Pi
section
variable {α : Type} {f : α → List V} {k : Nat}
end
theorem IfK_pos {p a b : Prop} (h : p) : IfK p a b = a := by simp [IfK, h]
end Pi

