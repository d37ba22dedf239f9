/- Contracts: why there is no model (layer 10): sets of places. -/
import Derived.Test.YtfdkpnckflmcaaaC10a
import Derived.Test.YtfdkpnckflmcaaaC09e
set_option linter.unusedSimpArgs false
set_option linter.unusedVariables false
namespace Pi
theorem wrap_nat {a : Nat} (h : a < 2 ^ 64) : Go.IntKind.u64.wrap (a : Int) = a := by
  have : ((a : Int) % (2 ^ 64 : Int)) = a := Int.emod_eq_of_lt (by omega) (by exact_mod_cast h)
  simp only [Go.IntKind.wrap, Go.IntKind.signed, Go.IntKind.bits]
  simp at this ⊢
  omega
theorem pow_lt {i : Nat} (hi : i < 64) : 2 ^ i < 2 ^ 64 := Nat.pow_lt_pow_right (by omega) hi
theorem bin_shr {S i : Nat} (hi : i < 64) : bin .shr (.i .u64 S) (.i .u64 i) = some (.i .u64 ((S / 2 ^ i : Nat) : Int)) := by
  have e : min (i : Int).toNat (Go.IntKind.bits .u64) = i := by simp [Go.IntKind.bits]; omega
  simp only [bin]
  rw [if_neg (by omega), e, Int.fdiv_eq_ediv_of_nonneg _ (by exact Int.le_of_lt (Int.pow_pos (by omega)))]
  simp
theorem bin_shl1 {i : Nat} (hi : i < 64) : bin .shl (.i .u64 1) (.i .u64 i) = some (.i .u64 ((2 ^ i : Nat) : Int)) := by
  have e : min (i : Int).toNat (Go.IntKind.bits .u64) = i := by simp [Go.IntKind.bits]; omega
  simp only [bin]
  rw [if_neg (by omega), e]
  have := wrap_nat (pow_lt hi)
  simp only [Int.one_mul]
  rw [← this]
  simp
theorem bin_and1 {S : Nat} : bin .and (.i .u64 S) (.i .u64 1) = some (.i .u64 ((S % 2 : Nat) : Int)) := by
  have : (BitVec.ofInt (Go.IntKind.bits .u64) (S : Int) &&& BitVec.ofInt (Go.IntKind.bits .u64) 1).toNat = S % 2 := by
    show (BitVec.ofInt 64 (S : Int) &&& BitVec.ofInt 64 1).toNat = S % 2
    rw [BitVec.ofInt_natCast, BitVec.toNat_and, BitVec.toNat_ofNat]
    have : (BitVec.ofInt 64 1).toNat = 1 := by decide
    rw [this, Nat.and_one_is_mod]
    omega
  simp only [bin, binI, if_true]
  rw [this, wrap_nat (by omega)]
theorem bin_off {S i : Nat} : bin .andNot (.i .u64 S) (.i .u64 ((2 ^ i : Nat) : Int)) = some (.i .u64 (offB S i : Nat)) := by
  have : (BitVec.ofInt (Go.IntKind.bits .u64) (S : Int) &&& ~~~(BitVec.ofInt (Go.IntKind.bits .u64) ((2 ^ i : Nat) : Int))).toNat = offB S i := by
    show (BitVec.ofInt 64 (S : Int) &&& ~~~(BitVec.ofInt 64 ((2 ^ i : Nat) : Int))).toNat = offB S i
    rw [BitVec.ofInt_natCast, BitVec.ofInt_natCast]
    rfl
  simp only [bin, binI, if_true]
  rw [this, wrap_nat (offB_lt S i)]
theorem core_set_has.a (S i : Nat) (hi : i < 64) : Ans ctx core_set_has.n [.i .u64 S, .i .i64 i] (.b (S.testBit i)) := by
  refine ans core_set_has.f ?_
  have h := has_bit S i
  obtain ⟨Q, hQ⟩ : ∃ Q : Nat, Q = S / 2 ^ i := ⟨_, rfl⟩
  rw [← hQ] at h
  have r1 : bin .shr (.i .u64 S) (.i .u64 i) = some (.i .u64 (Q : Nat)) := by rw [hQ]; exact bin_shr hi
  have r2 : bin .and (.i .u64 Q) (.i .u64 1) = some (.i .u64 ((Q % 2 : Nat) : Int)) := bin_and1
  cases hb : S.testBit i
  · have hz : Q % 2 = 0 := by
      rw [hb] at h
      simp at h
      omega
    rw [hz] at r2
    simp +contextual (disch := omega) [Nat.add_assoc, Int.add_assoc, if_pos, if_neg, -Int.not_lt, -Int.not_le, -Nat.not_lt, -Nat.not_le, -List.length_flatMap, core_set_has.c, r1, r2]
  · have hz : Q % 2 = 1 := by
      have := h.2 hb
      omega
    rw [hz] at r2
    simp +contextual (disch := omega) [Nat.add_assoc, Int.add_assoc, if_pos, if_neg, -Int.not_lt, -Int.not_le, -Nat.not_lt, -Nat.not_le, -List.length_flatMap, core_set_has.c, r1, r2]
theorem core_set_without.a (S i : Nat) (hi : i < 64) : Ans ctx core_set_without.n [.i .u64 S, .i .i64 i] (.i .u64 (offB S i : Nat)) := by
  refine ans core_set_without.f ?_
  obtain ⟨Q, hQ⟩ : ∃ Q : Nat, Q = 2 ^ i := ⟨_, rfl⟩
  have r1 : bin .shl (.i .u64 1) (.i .u64 i) = some (.i .u64 (Q : Nat)) := by rw [hQ]; exact bin_shl1 hi
  have r2 : bin .andNot (.i .u64 S) (.i .u64 Q) = some (.i .u64 (offB S i : Nat)) := by rw [hQ]; exact bin_off
  simp +contextual (disch := omega) [Nat.add_assoc, Int.add_assoc, if_pos, if_neg, -Int.not_lt, -Int.not_le, -Nat.not_lt, -Nat.not_le, -List.length_flatMap, core_set_without.c, r1, r2]
theorem bitsL_s (S n : Nat) : bitsL S (n + 1) = bitsL S n ++ if S.testBit n then [n] else [] := by
  unfold bitsL
  rw [List.range_succ, List.filter_append]
  congr 1
  cases h : S.testBit n <;> simp [h]
theorem bitsL_len (S n : Nat) : (bitsL S n).length ≤ n := by
  have := List.length_filter_le (fun i => S.testBit i) (List.range n)
  rwa [List.length_range] at this
theorem bitsL_lt {S n i : Nat} (h : i ∈ bitsL S n) : i < n := List.mem_range.1 (List.mem_filter.1 h).1
def intL (l : List Nat) : List Int := l.map fun i : Nat => (i : Int)
theorem intL_len (l : List Nat) : (intL l).length = l.length := by simp [intL]
theorem intL_app (a b : List Nat) : intL (a ++ b) = intL a ++ intL b := by simp [intL]
theorem intL_at {l : List Nat} {i : Nat} (h : i < (intL l).length) : (intL l)[i] = ((l[i]'(by rw [intL_len] at h; exact h) : Nat) : Int) := by simp [intL]
theorem core_set_places.a (S n : Nat) (hn : n ≤ 64) : Ans ctx core_set_places.n [.i .u64 S, .i .i64 n] (sV cI (intL (bitsL S n))) := by
  refine ans core_set_places.f ?_
  simp +contextual (disch := omega) [Nat.add_assoc, Int.add_assoc, if_pos, if_neg, -Int.not_lt, -Int.not_le, -Nat.not_lt, -Nat.not_le, -List.length_flatMap, core_set_places.c]
  refine for_w (fun i e m x => e 0 = .i .u64 S ∧ e 1 = .i .i64 n ∧ e 6 = .i .i64 n ∧ e 7 = .i .i64 i ∧ Bf m (e 4) cI 1 (intL (bitsL S i)) 0 x) n ?_ ?_ ?_
  · simp +contextual (disch := omega) [Nat.add_assoc, Int.add_assoc, if_pos, if_neg, -Int.not_lt, -Int.not_le, -Nat.not_lt, -Nat.not_le, -List.length_flatMap]
    exact Bf.nil (f := cI) (k := 1)
  · rintro i e m x hi ⟨g0, g1, g6, g7, g4⟩
    have hs := bitsL_s S i
    have hl := bitsL_len S i
    have hl2 : (intL (bitsL S i)).length ≤ i := by rw [intL_len]; exact hl
    cases hb : S.testBit i <;> rw [hb] at hs
    · simp +contextual (disch := omega) [Nat.add_assoc, Int.add_assoc, if_pos, if_neg, -Int.not_lt, -Int.not_le, -Nat.not_lt, -Nat.not_le, -List.length_flatMap, core_set_places.b1, g0, g1, g6, g7, hi, ansK (core_set_has.a S i (by omega)), hb]
      exact g4.to (by rw [hs]; simp) (by omega)
    · simp +contextual (disch := omega) [Nat.add_assoc, Int.add_assoc, if_pos, if_neg, -Int.not_lt, -Int.not_le, -Nat.not_lt, -Nat.not_le, -List.length_flatMap, core_set_places.b1, g0, g1, g6, g7, hi, ansK (core_set_has.a S i (by omega)), hb]
      refine g4.ap [(i : Int)] (by simp +contextual (disch := omega) [Nat.add_assoc, Int.add_assoc, if_pos, if_neg, -Int.not_lt, -Int.not_le, -Nat.not_lt, -Nat.not_le, -List.length_flatMap]) (by omega) (by omega) rfl rfl (by simp; omega) ?_
      intro B' ws m2 p0 p1 p2 p3
      simp +contextual (disch := omega) [Nat.add_assoc, Int.add_assoc, if_pos, if_neg, -Int.not_lt, -Int.not_le, -Nat.not_lt, -Nat.not_le, -List.length_flatMap, p0, g0, g1, g6, g7, p1.stor, p1.cells]
      exact p1.to (by rw [hs, intL_app]; rfl) (by omega)
  · rintro e m x ⟨g0, g1, g6, g7, g4⟩
    simp +contextual (disch := omega) [Nat.add_assoc, Int.add_assoc, if_pos, if_neg, -Int.not_lt, -Int.not_le, -Nat.not_lt, -Nat.not_le, -List.length_flatMap, core_set_places.b1, g0, g1, g6, g7, g4.fz24]
theorem pick_len (l : List C) (p : List Nat) : (pickC l p).length = p.length := by simp [pickC]
theorem core_set_of.a (S : Nat) (l : List C) (hl : l.length ≤ 64) (hf : ∀ c ∈ l, c.frm.length ≤ 9223372036854775807) : Ans ctx core_set_of.n [.i .u64 S, sV cC l] (sV cC (pickC l (bitsL S l.length))) := by
  refine ans core_set_of.f ?_
  have hp := core_set_places.a S l.length hl
  have hb := bitsL_len S l.length
  have hlt : ∀ i ∈ bitsL S l.length, i < l.length := fun i h => bitsL_lt h
  generalize bitsL S l.length = p at *
  have hpl := intL_len p
  simp +contextual (disch := omega) [Nat.add_assoc, Int.add_assoc, if_pos, if_neg, -Int.not_lt, -Int.not_le, -Nat.not_lt, -Nat.not_le, -List.length_flatMap, core_set_of.c, ansK hp, hpl]
  refine for_w (fun i e m x => e 1 = sV cC l ∧ e 10 = sV cI (intL p) ∧ e 11 = .i .i64 p.length ∧ e 12 = .i .i64 i ∧ Bf m (e 4) cC 3 (pickC l (p.take i)) 0 x) p.length ?_ ?_ ?_
  · simp +contextual (disch := omega) [Nat.add_assoc, Int.add_assoc, if_pos, if_neg, -Int.not_lt, -Int.not_le, -Nat.not_lt, -Nat.not_le, -List.length_flatMap]
    exact Bf.nil
  · rintro i e m x hi ⟨g1, g10, g11, g12, g4⟩
    have h1 := hlt p[i] (List.getElem_mem hi)
    have e1 : (intL p)[i]'(by omega) = ((p[i] : Nat) : Int) := by simp [intL]
    have e2 : pickC l (p.take (i + 1)) = pickC l (p.take i) ++ [l[p[i]]] := by
      unfold pickC
      rw [List.take_succ_eq_append_getElem hi, List.map_append]
      simp [h1]
    have e3 : (pickC l (p.take i)).length = i := by rw [pick_len, List.length_take]; omega
    simp +contextual (disch := omega) [Nat.add_assoc, Int.add_assoc, if_pos, if_neg, -Int.not_lt, -Int.not_le, -Nat.not_lt, -Nat.not_le, -List.length_flatMap, core_set_of.b1, g1, g10, g11, g12, hi, hpl, e1, h1]
    refine g4.ap [l[p[i]]] (by simp +contextual (disch := omega) [Nat.add_assoc, Int.add_assoc, if_pos, if_neg, -Int.not_lt, -Int.not_le, -Nat.not_lt, -Nat.not_le, -List.length_flatMap]) (by omega) (by omega) (by simp) rfl (by rw [e3]; simp; omega) ?_
    intro B' ws m2 p0 p1 p2 p3
    simp +contextual (disch := omega) [Nat.add_assoc, Int.add_assoc, if_pos, if_neg, -Int.not_lt, -Int.not_le, -Nat.not_lt, -Nat.not_le, -List.length_flatMap, p0, g1, g10, g11, g12, p1.stor, p1.cells]
    exact p1.to e2.symm (by omega)
  · rintro e m x ⟨g1, g10, g11, g12, g4⟩
    rw [List.take_length] at g4
    simp +contextual (disch := omega) [Nat.add_assoc, Int.add_assoc, if_pos, if_neg, -Int.not_lt, -Int.not_le, -Nat.not_lt, -Nat.not_le, -List.length_flatMap, core_set_of.b1, g1, g10, g11, g12, g4.fz24]
end Pi
