/- Atoms, clauses: how they fill cells. -/
import Derived.Test.YtbkkigmlkafeiaaCode
import Derived.Test.YtbkkigmlkafeiaaEnc
import Derived.Test.YtbkkigmlkafeiaaFw4
set_option linter.unusedSimpArgs false
set_option linter.unusedVariables false
namespace Pi
end Pi


set_option linter.unusedSimpArgs false
set_option linter.unusedVariables false
namespace Pi
/-- What stands there: the number, how many bytes it has, the error. -/
def getR : List Nat → Nat → Nat → Nat × Nat × Nat
  | [], _, _ => (0, 0, 21)
  | b :: r, k, n =>
    if k > 0 ∧ b = 0 ∨ k > 5 then (0, 0, 20)
    else if b < 128 then (if 1099511627776 < n + b * 128 ^ k then (0, 0, 20) else (n + b * 128 ^ k, k + 1, 0))
    else getR r (k + 1) (n + b % 128 * 128 ^ k)
def getS (l : List Nat) (p : Int) : Nat × Nat × Nat := if p < 0 ∨ p > l.length then (0, 0, 1) else
  let r := getR (l.drop p.toNat) 0 0
  (r.1, if r.2.2 = 0 then p.toNat + r.2.1 else 0, r.2.2)
def t3 (r : Nat × Nat × Nat) : V := .tu [.i .i64 r.1, .i .i64 r.2.1, .i .i64 r.2.2]

set_option maxHeartbeats 1000000 in
theorem ref01_Get.a (l : List Nat) (p : Int) (hl : Byt l) (hn : l.length ≤ 10000) : Ans ctx ref01_Get.n [.s (bs l), .i .i64 p] (t3 (getS l p)) := by
  refine ans ref01_Get.f ?_
  unfold getS t3
  simp +contextual (disch := omega) [Nat.add_assoc, Int.add_assoc, if_pos, if_neg, -Int.not_lt, -Int.not_le, -Nat.not_lt, -Nat.not_le, -List.length_flatMap, ref01_Get.c]
  intro h0 h1
  obtain ⟨q, rfl⟩ : ∃ k : Nat, p = k := ⟨p.toNat, by omega⟩
  simp only [Int.toNat_natCast]
  generalize hR : getR (l.drop q) 0 0 = R
  refine for_w (fun i e m x => e 0 = .s (bs l) ∧ e 1 = .i .i64 q ∧ e 9 = .i .i64 (q + i) ∧ ∃ n u : Nat, e 7 = .i .i64 n ∧ e 8 = .i .i64 u ∧ u = 128 ^ i ∧ n < u ∧ u ≤ 4398046511104 ∧ i ≤ 6 ∧ getR (l.drop (q + i)) i n = R) (l.length - q) ?_ ?_ ?_
  · refine ⟨?_, ?_, ?_, 0, 1, ?_⟩ <;> simp +contextual (disch := omega) [Nat.add_assoc, Int.add_assoc, if_pos, if_neg, -Int.not_lt, -Int.not_le, -Nat.not_lt, -Nat.not_le, -List.length_flatMap, hR]
  · rintro i e m x hi ⟨g1, g2, g3, n, u, g4, g5, g6, g7, g8, g9, g10⟩
    have hq : q + i < l.length := by omega
    have hb := hl.at hq
    rw [List.drop_eq_getElem_cons hq, getR] at g10
    generalize hbb : l[q + i] = b at hb g10
    have ht : ((q : Int) + i).toNat = q + i := by omega
    by_cases h2 : i = 6
    · rw [if_pos (by omega)] at g10
      subst g10
      by_cases hb0 : b = 0
      · simp +contextual (disch := omega) [Nat.add_assoc, Int.add_assoc, if_pos, if_neg, -Int.not_lt, -Int.not_le, -Nat.not_lt, -Nat.not_le, -List.length_flatMap, ref01_Get.b1, g1, g2, g3, g4, g5, hbb, ht, hb0]
      · simp +contextual (disch := omega) [Nat.add_assoc, Int.add_assoc, if_pos, if_neg, -Int.not_lt, -Int.not_le, -Nat.not_lt, -Nat.not_le, -List.length_flatMap, ref01_Get.b1, g1, g2, g3, g4, g5, hbb, ht, hb0]
    by_cases h3 : i > 0 ∧ b = 0
    · rw [if_pos (by omega)] at g10
      subst g10
      simp +contextual (disch := omega) [Nat.add_assoc, Int.add_assoc, if_pos, if_neg, -Int.not_lt, -Int.not_le, -Nat.not_lt, -Nat.not_le, -List.length_flatMap, ref01_Get.b1, g1, g2, g3, g4, g5, hbb, ht, h3]
    rw [if_neg (by omega)] at g10
    have hu : u ≤ 34359738368 := by
      have : (128 : Nat) ^ i ≤ 128 ^ 5 := Nat.pow_le_pow_right (by omega) (by omega)
      omega
    rw [← g6] at g10
    have hp : u * 128 = 128 ^ (i + 1) := by rw [g6, Nat.pow_succ]
    have hm : b % 128 * u ≤ 127 * u := Nat.mul_le_mul_right _ (by omega)
    have hpi : (b : Int) % 128 * u = ((b % 128 * u : Nat) : Int) := by simp
    have hbu : b < 128 → b * u = b % 128 * u := fun h => by rw [Nat.mod_eq_of_lt h]
    generalize hpp : b % 128 * u = p at hm hpi hbu g10
    have hlast : ((q : Int) + i + 1) = q + ((i + 1 : Nat) : Int) := by omega
    clear hl hR
    by_cases h5 : b < 128
    · rw [if_pos h5, hbu h5] at g10
      by_cases h6 : 1099511627776 < n + p
      · rw [if_pos h6] at g10
        subst g10
        rcases (by omega : i = 0 ∨ (0 < i ∧ ¬ b = 0)) with h4 | ⟨h4, h4'⟩
        · simp +contextual (disch := omega) [Nat.add_assoc, Int.add_assoc, if_pos, if_neg, -Int.not_lt, -Int.not_le, -Nat.not_lt, -Nat.not_le, -List.length_flatMap, ref01_Get.b1, g1, g2, g3, g4, g5, hbb, ht, hpi, Int.tmod_eq_emod_of_nonneg]
        · simp +contextual (disch := omega) [Nat.add_assoc, Int.add_assoc, if_pos, if_neg, -Int.not_lt, -Int.not_le, -Nat.not_lt, -Nat.not_le, -List.length_flatMap, ref01_Get.b1, g1, g2, g3, g4, g5, hbb, ht, hpi, Int.tmod_eq_emod_of_nonneg]
      · rw [if_neg h6] at g10
        subst g10
        rcases (by omega : i = 0 ∨ (0 < i ∧ ¬ b = 0)) with h4 | ⟨h4, h4'⟩
        · simp +contextual (disch := omega) [Nat.add_assoc, Int.add_assoc, if_pos, if_neg, -Int.not_lt, -Int.not_le, -Nat.not_lt, -Nat.not_le, -List.length_flatMap, ref01_Get.b1, g1, g2, g3, g4, g5, hbb, ht, hpi, Int.tmod_eq_emod_of_nonneg]
        · simp +contextual (disch := omega) [Nat.add_assoc, Int.add_assoc, if_pos, if_neg, -Int.not_lt, -Int.not_le, -Nat.not_lt, -Nat.not_le, -List.length_flatMap, ref01_Get.b1, g1, g2, g3, g4, g5, hbb, ht, hpi, Int.tmod_eq_emod_of_nonneg]
    · rw [if_neg h5] at g10
      rcases (by omega : i = 0 ∨ (0 < i ∧ ¬ b = 0)) with h4 | ⟨h4, h4'⟩
      · simp +contextual (disch := omega) [Nat.add_assoc, Int.add_assoc, if_pos, if_neg, -Int.not_lt, -Int.not_le, -Nat.not_lt, -Nat.not_le, -List.length_flatMap, ref01_Get.b1, g1, g2, g3, g4, g5, hbb, ht, hpi, Int.tmod_eq_emod_of_nonneg]
        exact ⟨n + p, by omega, u * 128, by simp, hp, by omega, by omega, by omega, by rw [← Nat.add_assoc]; exact g10⟩
      · simp +contextual (disch := omega) [Nat.add_assoc, Int.add_assoc, if_pos, if_neg, -Int.not_lt, -Int.not_le, -Nat.not_lt, -Nat.not_le, -List.length_flatMap, ref01_Get.b1, g1, g2, g3, g4, g5, hbb, ht, hpi, Int.tmod_eq_emod_of_nonneg]
        exact ⟨n + p, by omega, u * 128, by simp, hp, by omega, by omega, by omega, by rw [← Nat.add_assoc]; exact g10⟩
  · rintro e m x ⟨g1, g2, g3, n, u, g4, g5, g6, g7, g8, g9, g10⟩
    rw [List.drop_of_length_le (by omega), getR] at g10
    subst g10
    simp +contextual (disch := omega) [Nat.add_assoc, Int.add_assoc, if_pos, if_neg, -Int.not_lt, -Int.not_le, -Nat.not_lt, -Nat.not_le, -List.length_flatMap, ref01_Get.b1, g1, g2, g3, g4, g5]

set_option maxRecDepth 100000 in
theorem and127b {a : Int} (h : 0 ≤ a) (h' : a < 256) : bin .and (.i .u8 a) (.i .u8 127) = some (.i .u8 (a % 128)) := by
  obtain ⟨k, rfl⟩ : ∃ k : Nat, a = k := ⟨a.toNat, by omega⟩
  have : ∀ d : Fin 256, Go.IntKind.u8.wrap ((BitVec.ofInt 8 ((d.val : Nat) : Int) &&& BitVec.ofInt 8 127).toNat : Nat) = (d.val : Int) % 128 := by decide
  show some (V.i .u8 (Go.IntKind.u8.wrap ((BitVec.ofInt 8 ((k : Nat) : Int) &&& BitVec.ofInt 8 127).toNat : Nat))) = _
  rw [this ⟨k, by omega⟩]
attribute [simp] and127b
theorem pow7 (i : Nat) : (128 : Nat) ^ i = 2 ^ (7 * i) := by rw [Nat.pow_mul]
theorem shl7 {i u : Nat} (hi : i ≤ 6) (hu : u = 128 ^ i) (a : Int) (h : 0 ≤ a ∧ a < 128) : bin .shl (.i .u64 a) (.i .i64 (7 * (i : Int))) = some (.i .u64 (a * u)) := by
  obtain ⟨k, rfl⟩ : ∃ k : Nat, a = k := ⟨a.toNat, by omega⟩
  simp only [bin]
  rw [if_neg (by omega)]
  have e1 : min (7 * (i : Int)).toNat Go.IntKind.u64.bits = 7 * i := by
    show min (7 * (i : Int)).toNat 64 = 7 * i
    omega
  have hu' : u ≤ 4398046511104 := by
    rw [hu]
    calc (128 : Nat) ^ i ≤ 128 ^ 6 := Nat.pow_le_pow_right (by omega) hi
      _ = 4398046511104 := by decide
  have hm : k * u ≤ 127 * u := Nat.mul_le_mul_right _ (by omega)
  have e2 : (k : Int) * 2 ^ (7 * i) = ((k * u : Nat) : Int) := by
    rw [hu, pow7]
    simp
  rw [e1, e2, u64w (by omega) (by omega)]
  simp
theorem or7 {i u n d : Nat} (hi : i ≤ 5) (hu : u = 128 ^ i) (hn : n < u) (hd : d < 128) : bin .or (.i .u64 n) (.i .u64 ((d * u : Nat) : Int)) = some (.i .u64 ((n : Int) + (d * u : Nat))) := by
  have hu' : u ≤ 34359738368 := by
    rw [hu]
    calc (128 : Nat) ^ i ≤ 128 ^ 5 := Nat.pow_le_pow_right (by omega) hi
      _ = 34359738368 := by decide
  have hm : d * u ≤ 127 * u := Nat.mul_le_mul_right _ (by omega)
  simp only [bin, binI, if_true]
  congr 2
  have e3 : Go.IntKind.u64.bits = 64 := rfl
  have e1 : (BitVec.ofInt 64 (n : Int)).toNat = n := by simp [BitVec.toNat_ofInt]; omega
  have e2 : (BitVec.ofInt 64 ((d * u : Nat) : Int)).toNat = d * u := by
    generalize d * u = t at hm
    simp [BitVec.toNat_ofInt]
    omega
  rw [e3, BitVec.toNat_or, e1, e2, Nat.or_comm, hu, pow7, Nat.mul_comm d, ← Nat.two_pow_add_eq_or_of_lt (by rw [← pow7, ← hu]; exact hn), ← pow7, ← hu]
  rw [u64w (by omega) (by rw [Nat.mul_comm] at hm; omega)]
  rw [Nat.mul_comm u d]
  omega

set_option maxHeartbeats 1000000 in
theorem octet_Get.a (l : List Nat) (p : Int) (hl : Byt l) (hn : l.length ≤ 10000) : Ans ctx octet_Get.n [.s (bs l), .i .i64 p] (t3 (getS l p)) := by
  refine ans octet_Get.f ?_
  unfold getS t3
  simp +contextual (disch := omega) [Nat.add_assoc, Int.add_assoc, if_pos, if_neg, -Int.not_lt, -Int.not_le, -Nat.not_lt, -Nat.not_le, -List.length_flatMap, octet_Get.c]
  intro h0 h1
  obtain ⟨q, rfl⟩ : ∃ k : Nat, p = k := ⟨p.toNat, by omega⟩
  simp only [Int.toNat_natCast]
  have htk : (l.drop q).take (l.length - q) = l.drop q := List.take_of_length_le (by simp)
  rw [htk, ofBytes_bs (hl.drop q)]
  have hln : (l.drop q).length = l.length - q := by simp
  generalize hd : l.drop q = d at hln
  have hb := hl.drop q
  rw [hd] at hb
  generalize hR : getR d 0 0 = R
  have hdl : d.length ≤ 10000 := by omega
  have hlq : (l.length - q : Nat) = d.length := hln.symm
  have hlq' : (((l.length - q : Nat) : Int)) = d.length := by omega
  refine for_w (fun i e m x => e 1 = .i .i64 q ∧ e 21 = .ms 15 0 (l.length - q) 1 ∧ m 15 = some (.cells (d.flatMap cU) false) ∧ e 22 = .i .i64 ((l.length - q : Nat) : Int) ∧ e 23 = .i .i64 i ∧ ∃ n u : Nat, e 7 = .i .u64 n ∧ u = 128 ^ i ∧ n < u ∧ u ≤ 4398046511104 ∧ i ≤ 6 ∧ getR (d.drop i) i n = R) d.length ?_ ?_ ?_
  · refine ⟨?_, ?_, ?_, ?_, ?_, 0, 1, ?_⟩ <;> simp +contextual (disch := omega) [Nat.add_assoc, Int.add_assoc, if_pos, if_neg, -Int.not_lt, -Int.not_le, -Nat.not_lt, -Nat.not_le, -List.length_flatMap, hR]
  · rintro i e m x hi ⟨g1, g2, g3, g4, g5, n, u, g6, g7, g8, g9, g10, g11⟩
    have hbi := hb.at hi
    rw [List.drop_eq_getElem_cons hi, getR] at g11
    generalize hbb : d[i] = b at hbi g11
    clear hl hR hb
    by_cases h2 : i = 6
    · rw [if_pos (by omega)] at g11
      subst g11
      simp +contextual (disch := omega) [Nat.add_assoc, Int.add_assoc, if_pos, if_neg, -Int.not_lt, -Int.not_le, -Nat.not_lt, -Nat.not_le, -List.length_flatMap, octet_Get.b1, g1, g2, g3, g4, g5, g6, hbb, hi]
    by_cases h3 : i > 0 ∧ b = 0
    · rw [if_pos (by omega)] at g11
      subst g11
      simp +contextual (disch := omega) [Nat.add_assoc, Int.add_assoc, if_pos, if_neg, -Int.not_lt, -Int.not_le, -Nat.not_lt, -Nat.not_le, -List.length_flatMap, octet_Get.b1, g1, g2, g3, g4, g5, g6, hbb, hi, h3]
    rw [if_neg (by omega)] at g11
    have hu : u ≤ 34359738368 := by
      have : (128 : Nat) ^ i ≤ 128 ^ 5 := Nat.pow_le_pow_right (by omega) (by omega)
      omega
    rw [← g7] at g11
    have hp : u * 128 = 128 ^ (i + 1) := by rw [g7, Nat.pow_succ]
    have hm : b % 128 * u ≤ 127 * u := Nat.mul_le_mul_right _ (by omega)
    have hpi : (b : Int) % 128 * u = ((b % 128 * u : Nat) : Int) := by simp
    have hbu : b < 128 → b * u = b % 128 * u := fun h => by rw [Nat.mod_eq_of_lt h]
    have ho := or7 (d := b % 128) (by omega : i ≤ 5) g7 g8 (by omega)
    have hsh := shl7 (by omega : i ≤ 6) g7
    generalize hpp : b % 128 * u = p at hm hpi hbu g11 ho
    clear g7
    rcases (by omega : i = 0 ∨ (0 < i ∧ ¬ b = 0)) with h4 | ⟨h4, h4'⟩
    · by_cases h5 : b < 128
      · rw [if_pos h5, hbu h5] at g11
        by_cases h6 : 1099511627776 < n + p
        · rw [if_pos h6] at g11
          subst g11
          simp +contextual (disch := omega) [Nat.add_assoc, Int.add_assoc, if_pos, if_neg, -Int.not_lt, -Int.not_le, -Nat.not_lt, -Nat.not_le, -List.length_flatMap, octet_Get.b1, g1, g2, g3, g4, g5, g6, hbb, hpi, hsh, ho, hi]
        · rw [if_neg h6] at g11
          subst g11
          simp +contextual (disch := omega) [Nat.add_assoc, Int.add_assoc, if_pos, if_neg, -Int.not_lt, -Int.not_le, -Nat.not_lt, -Nat.not_le, -List.length_flatMap, octet_Get.b1, g1, g2, g3, g4, g5, g6, hbb, hpi, hsh, ho, hi]
      · rw [if_neg h5] at g11
        simp +contextual (disch := omega) [Nat.add_assoc, Int.add_assoc, if_pos, if_neg, -Int.not_lt, -Int.not_le, -Nat.not_lt, -Nat.not_le, -List.length_flatMap, octet_Get.b1, g1, g2, g3, g4, g5, g6, hbb, hpi, hsh, ho, hi]
        exact ⟨n + p, by omega, by omega, by omega, by omega, g11⟩
    · by_cases h5 : b < 128
      · rw [if_pos h5, hbu h5] at g11
        by_cases h6 : 1099511627776 < n + p
        · rw [if_pos h6] at g11
          subst g11
          simp +contextual (disch := omega) [Nat.add_assoc, Int.add_assoc, if_pos, if_neg, -Int.not_lt, -Int.not_le, -Nat.not_lt, -Nat.not_le, -List.length_flatMap, octet_Get.b1, g1, g2, g3, g4, g5, g6, hbb, hpi, hsh, ho, hi]
        · rw [if_neg h6] at g11
          subst g11
          simp +contextual (disch := omega) [Nat.add_assoc, Int.add_assoc, if_pos, if_neg, -Int.not_lt, -Int.not_le, -Nat.not_lt, -Nat.not_le, -List.length_flatMap, octet_Get.b1, g1, g2, g3, g4, g5, g6, hbb, hpi, hsh, ho, hi]
      · rw [if_neg h5] at g11
        simp +contextual (disch := omega) [Nat.add_assoc, Int.add_assoc, if_pos, if_neg, -Int.not_lt, -Int.not_le, -Nat.not_lt, -Nat.not_le, -List.length_flatMap, octet_Get.b1, g1, g2, g3, g4, g5, g6, hbb, hpi, hsh, ho, hi]
        exact ⟨n + p, by omega, by omega, by omega, by omega, g11⟩
  · rintro e m x ⟨g1, g2, g3, g4, g5, n, u, g6, g7, g8, g9, g10, g11⟩
    rw [List.drop_of_length_le (by omega), getR] at g11
    subst g11
    simp +contextual (disch := omega) [Nat.add_assoc, Int.add_assoc, if_pos, if_neg, -Int.not_lt, -Int.not_le, -Nat.not_lt, -Nat.not_le, -List.length_flatMap, octet_Get.b1, g1, g2, g3, g4, g5, g6]
end Pi


set_option linter.unusedSimpArgs false
set_option linter.unusedVariables false
namespace Pi
end Pi


set_option linter.unusedSimpArgs false
set_option linter.unusedVariables false
namespace Pi
structure A where
  var : Int
  off : Int
  deriving Inhabited, DecidableEq
def cA (a : A) : List V := [.i .i64 a.var, .i .i64 a.off]
@[simp] theorem cA_len (a : A) : (cA a).length = 2 := rfl
@[simp] theorem cA_fz (a : A) (D : Nat → Option (Bool × List V × List V × List Nat)) : frzL D (cA a) = some (cA a, []) := by simp [cA]
instance : Cel cA 2 := ⟨cA_len, by decide, cA_fz⟩
@[simp] theorem cA_0 (a : A) : (cA a)[0]? = some (.i .i64 a.var) := rfl
@[simp] theorem cA_1 (a : A) : (cA a)[1]? = some (.i .i64 a.off) := rfl
@[simp] theorem cA_take (a : A) : (cA a).take 2 = cA a := rfl
@[simp] theorem cA_drop (a : A) : (cA a).drop 2 = [] := rfl
structure C where
  frm : List A
  to : A
  deriving Inhabited, DecidableEq
def cC (c : C) : List V := [sV cA c.frm, .i .i64 c.to.var, .i .i64 c.to.off]
@[simp] theorem cC_len (c : C) : (cC c).length = 3 := rfl
@[simp] theorem cC_fz (c : C) (D : Nat → Option (Bool × List V × List V × List Nat)) : frzL D (cC c) = some (cC c, []) := by simp [cC]
instance : Cel cC 3 := ⟨cC_len, by decide, cC_fz⟩
@[simp] theorem cC_0 (c : C) : (cC c)[0]? = some (sV cA c.frm) := rfl
@[simp] theorem cC_1 (c : C) : (cC c)[1]? = some (.i .i64 c.to.var) := rfl
@[simp] theorem cC_2 (c : C) : (cC c)[2]? = some (.i .i64 c.to.off) := rfl
@[simp] theorem cC_take (c : C) : (cC c).take 3 = cC c := rfl
@[simp] theorem cC_drop (c : C) : (cC c).drop 3 = [] := rfl
@[simp] theorem cC_tail (c : C) : (cC c).tail = cA c.to := rfl
@[simp] theorem cA_drop0 (a : A) : (cA a).tail = [.i .i64 a.off] := rfl
end Pi


set_option linter.unusedSimpArgs false
set_option linter.unusedVariables false
namespace Pi
section
variable {α : Type} {f : α → List V} {k : Nat}
end
theorem IfK_pos {p a b : Prop} (h : p) : IfK p a b = a := by simp [IfK, h]
end Pi

