/- Contracts: levels by cases (layer 7): all cases. -/
import Derived.Test.YtjaoacpemboakaaC06g
import Derived.Test.YtjaoacpemboakaaC06l
set_option linter.unusedSimpArgs false
set_option linter.unusedVariables false
namespace Pi
/-- The k-th case of so many parameters. -/
def caseP (k n : Nat) : List Bool := (List.range n).map fun i => decide (k / 2 ^ i % 2 = 1)
theorem caseP_len (k n : Nat) : (caseP k n).length = n := by simp [caseP]
theorem caseP_at (k n i : Nat) (hi : i < n) : (caseP k n)[i]? = some (decide (k / 2 ^ i % 2 = 1)) := by simp [caseP, hi]
theorem shr_nat {k i : Nat} (hi : i ≤ 64) : bin .shr (.i .u64 (k : Nat)) (.i .i64 (i : Nat)) = some (.i .u64 ((k / 2 ^ i : Nat) : Int)) := by
  have e : min ((i : Int)).toNat (Go.IntKind.u64.bits) = i := by simp [Go.IntKind.bits]; omega
  have h : ¬ ((i : Int) < 0) := by omega
  simp only [bin, h, if_false, e]
  congr 2
  rw [Int.fdiv_eq_ediv_of_nonneg _ (Int.le_of_lt (Int.pow_pos (by omega)))]
  norm_cast
theorem and1u {a : Nat} (ha : a < 1000) : bin .and (.i .u64 (a : Nat)) (.i .u64 1) = some (.i .u64 ((a % 2 : Nat) : Int)) := by
  simp only [bin, binI, if_true]
  congr 2
  have h1 : (BitVec.ofInt 64 a &&& BitVec.ofInt 64 1).toNat = a % 2 := by
    rw [BitVec.toNat_and]
    have e2 : (BitVec.ofInt 64 1).toNat = 2 ^ 1 - 1 := by decide
    rw [e2, Nat.and_two_pow_sub_one_eq_mod, BitVec.toNat_ofInt]
    have : (2 : Nat) ^ 64 = 18446744073709551616 := by decide
    omega
  have e3 : Go.IntKind.u64.bits = 64 := rfl
  rw [e3, h1]
  simp [Go.IntKind.wrap, Go.IntKind.signed, Go.IntKind.bits]
  omega
theorem shl1 {n : Nat} (hn : n ≤ 5) : bin .shl (.i .u64 1) (.i .i64 (n : Nat)) = some (.i .u64 ((2 ^ n : Nat) : Int)) ∧ bin .shl (.i .i64 1) (.i .i64 (n : Nat)) = some (.i .i64 ((2 ^ n : Nat) : Int)) := by
  have : n = 0 ∨ n = 1 ∨ n = 2 ∨ n = 3 ∨ n = 4 ∨ n = 5 := by omega
  rcases this with rfl | rfl | rfl | rfl | rfl | rfl <;> exact ⟨rfl, rfl⟩
theorem pow32 {n : Nat} (hn : n ≤ 5) : 2 ^ n ≤ 32 := by
  have : n = 0 ∨ n = 1 ∨ n = 2 ∨ n = 3 ∨ n = 4 ∨ n = 5 := by omega
  rcases this with rfl | rfl | rfl | rfl | rfl | rfl <;> decide
theorem ref07_Case.a (k n : Nat) (hk : k < 1000) (hn : n ≤ 5) : Ans ctx ref07_Case.n [.i .i64 k, .i .i64 n] (sV cB (caseP k n)) := by
  refine ans ref07_Case.f ?_
  simp +contextual (disch := omega) [Nat.add_assoc, Int.add_assoc, if_pos, if_neg, -Int.not_lt, -Int.not_le, -Nat.not_lt, -Nat.not_le, -List.length_flatMap, ref07_Case.c]
  refine for_w (fun i e m x => e 0 = .i .i64 (k / 2 ^ i : Nat) ∧ e 1 = .i .i64 n ∧ e 6 = .i .i64 i ∧ Bf m (e 5) cB 1 ((caseP k n).take i) 0 x) n ?_ ?_ ?_
  · simp +contextual (disch := omega) [Nat.add_assoc, Int.add_assoc, if_pos, if_neg, -Int.not_lt, -Int.not_le, -Nat.not_lt, -Nat.not_le, -List.length_flatMap]
    exact Bf.nil
  · rintro i e m x hi ⟨g0, g1, g6, g5⟩
    generalize hB : e 5 = B at g5
    have hle : k / 2 ^ i ≤ k := Nat.div_le_self _ _
    have hs : (caseP k n).take (i + 1) = (caseP k n).take i ++ [decide (k / 2 ^ i % 2 = 1)] := by
      rw [List.take_add_one, caseP_at k n i hi]; rfl
    have hd : k / 2 ^ (i + 1) = k / 2 ^ i / 2 := by rw [Nat.pow_succ, Nat.div_div_eq_div_mul]
    have hln : ((caseP k n).take i).length ≤ 5 := by rw [List.length_take]; omega
    rw [hd, hs]
    generalize k / 2 ^ i = q at *
    have hdq : decide ((q : Int) % 2 = 1) = decide (q % 2 = 1) := by rw [decide_eq_decide]; omega
    simp +contextual (disch := omega) [Nat.add_assoc, Int.add_assoc, if_pos, if_neg, -Int.not_lt, -Int.not_le, -Nat.not_lt, -Nat.not_le, -List.length_flatMap, ref07_Case.b1, g0, g1, g6, hB, hi, Int.tmod_eq_emod_of_nonneg, Int.tdiv_eq_ediv_of_nonneg, hdq, -apV_ns]
    refine g5.ap [decide (q % 2 = 1)] (fun j h1 h2 => by simp +contextual (disch := omega) [Nat.add_assoc, Int.add_assoc, if_pos, if_neg, -Int.not_lt, -Int.not_le, -Nat.not_lt, -Nat.not_le, -List.length_flatMap]) (by omega) (by omega) rfl rfl (by simp; omega) ?_
    intro B' ws m2 z0 z1 z2 z3
    simp +contextual (disch := omega) [Nat.add_assoc, Int.add_assoc, if_pos, if_neg, -Int.not_lt, -Int.not_le, -Nat.not_lt, -Nat.not_le, -List.length_flatMap, z0, g0, g1, g6, z1.stor, z1.cells, Int.tdiv_eq_ediv_of_nonneg]
    exact z1.to rfl (by omega)
  · rintro e m x ⟨g0, g1, g6, g5⟩
    rw [List.take_of_length_le (by rw [caseP_len]; exact Nat.le_refl _)] at g5
    have hz := g5.fz24
    generalize hB : e 5 = B at g5 hz
    simp +contextual (disch := omega) [Nat.add_assoc, Int.add_assoc, if_pos, if_neg, -Int.not_lt, -Int.not_le, -Nat.not_lt, -Nat.not_le, -List.length_flatMap, ref07_Case.b1, g0, g1, g6, hB, hz]
theorem set_rep (k n i : Nat) (hi : i < n) : ((caseP k n).take i ++ List.replicate (n - i) false).set i (decide (k / 2 ^ i % 2 = 1)) = (caseP k n).take (i + 1) ++ List.replicate (n - (i + 1)) false := by
  have hl : ((caseP k n).take i).length = i := by rw [List.length_take, caseP_len]; omega
  obtain ⟨d, hd⟩ : ∃ d, n - i = d + 1 := ⟨n - i - 1, by omega⟩
  rw [List.set_append_right _ _ (by omega), hl, Nat.sub_self, hd, List.replicate_succ, List.set_cons_zero, List.take_add_one, caseP_at k n i hi, List.append_assoc, (by omega : n - (i + 1) = d)]
  rfl
theorem flatB_map (l : List Bool) : l.flatMap cB = l.map V.b := by induction l <;> simp_all [cB]
theorem flatB_len (l : List Bool) : (l.flatMap cB).length = l.length := by rw [flatB_map, List.length_map]
theorem flatB_set {l : List Bool} {j : Nat} {v : Bool} (h : j < l.length) : (l.flatMap cB).take j ++ V.b v :: (l.flatMap cB).drop (j + 1) = (l.set j v).flatMap cB := by
  rw [flatB_map, flatB_map, take_set (by rw [List.length_map]; exact h), List.map_set]
theorem zerosB (n : Nat) : zeros [V.b false] n = (List.replicate n false).flatMap cB := by
  induction n with
  | zero => rfl
  | succ n ih => rw [List.replicate_succ, List.flatMap_cons, zeros, ih]; rfl
/-- A case in memory. -/
def Zm (m : Sto) (B : V) (l : List Bool) (lo x : Nat) : Prop := (B = .ns ∧ l = []) ∨ ∃ b, B = .ms b 0 l.length 1 ∧ m b = some (.cells (l.flatMap cB) false) ∧ lo ≤ b ∧ b < x
theorem Zm.bf {m : Sto} {B : V} {l : List Bool} {lo x : Nat} (h : Zm m B l lo x) : Bf m B cB 1 l lo x := by
  rcases h with ⟨rfl, rfl⟩ | ⟨a, rfl, h1, h2, h3⟩
  · exact Bf.nil
  · exact .mem h1 rfl rfl h2 h3
set_option maxHeartbeats 1000000 in
theorem leq_All_1.w {n : Nat} (hn : n ≤ 5) {a ll x0 : Nat} {m : Sto} {K : CR → Sto → Nat → Prop} (I : Nat → Sto → Nat → Prop) (E : Sto → Nat → Prop)
    (hI : ∀ k m x, I k m x → m a = some (.cells [.i .i64 n] false)) (fr : ∀ k m x m' x', x0 ≤ x → I k m x → x ≤ x' → (∀ j, j < x → m' j = m j) → I k m' x') (h0 : I 0 m x0) (frE : ∀ m x x', E m x → x ≤ x' → E m x')
    (hs : ∀ (k : Nat), k < 2 ^ n → ∀ m y x B K', x0 ≤ y → y ≤ x → I k m y → Zm m B (caseP k n) y x → (∀ m' x', x ≤ x' → I (k + 1) m' x' → K' (.ret (.b true)) m' x') → (∀ m' x', x ≤ x' → E m' x' → K' (.ret (.b false)) m' x') →
      wpCall ctx (.fn (.yield ll) [] []) [B] m x K')
    (hd : ∀ m' x', x0 ≤ x' → I (2 ^ n) m' x' → K (.ret (.tu [])) m' x') (he : ∀ m' x', x0 ≤ x' → E m' x' → K (.ret (.tu [])) m' x') :
    wpCall ctx (.fn (.func leq_All_1.n) [] [.p a 0]) [.fn (.yield ll) [] []] m x0 K := by
  refine openg_w leq_All_1.f rfl (.inr (by simp +contextual (disch := omega) [Nat.add_assoc, Int.add_assoc, if_pos, if_neg, -Int.not_lt, -Int.not_le, -Nat.not_lt, -Nat.not_le, -List.length_flatMap])) ?_
  have ha := hI _ _ _ h0
  have hsh := (shl1 hn).1
  have h32 := pow32 hn
  obtain ⟨N, hN⟩ : ∃ N : Nat, N = 2 ^ n := ⟨_, rfl⟩
  rw [← hN] at hsh hs hd h32
  simp +contextual (disch := omega) [Nat.add_assoc, Int.add_assoc, if_pos, if_neg, -Int.not_lt, -Int.not_le, -Nat.not_lt, -Nat.not_le, -List.length_flatMap, leq_All_1.c, ha, hsh]
  refine for_w (fun k e m x => e 0 = .fn (.yield ll) [] [] ∧ e 1 = .p a 0 ∧ e 7 = .i .u64 N ∧ e 8 = .i .u64 k ∧ x0 ≤ x ∧ I k m x) N ?_ ?_ ?_
  · simp +contextual (disch := omega) [Nat.add_assoc, Int.add_assoc, if_pos, if_neg, -Int.not_lt, -Int.not_le, -Nat.not_lt, -Nat.not_le, -List.length_flatMap]
    exact fr _ _ _ _ _ (Nat.le_refl _) h0 (by omega) (fun _ _ => rfl)
  · rintro k e m x hk ⟨g0, g1, g7, g8, gx, gI⟩
    have ha := hI _ _ _ gI
    by_cases hn0 : n = 0
    · subst hn0
      simp +contextual (disch := omega) [Nat.add_assoc, Int.add_assoc, if_pos, if_neg, -Int.not_lt, -Int.not_le, -Nat.not_lt, -Nat.not_le, -List.length_flatMap, leq_All_1.b2, g0, g1, g7, g8, ha, hk]
      refine un_w ?_
      simp +contextual (disch := omega) [Nat.add_assoc, Int.add_assoc, if_pos, if_neg, -Int.not_lt, -Int.not_le, -Nat.not_lt, -Nat.not_le, -List.length_flatMap, leq_All_1.b1, g0]
      refine hs k hk _ x _ .ns _ gx (by omega) gI (.inl ⟨rfl, rfl⟩) ?_ ?_
      · intro m' x' p1 p2
        simp +contextual (disch := omega) [Nat.add_assoc, Int.add_assoc, if_pos, if_neg, -Int.not_lt, -Int.not_le, -Nat.not_lt, -Nat.not_le, -List.length_flatMap, g0, g1, g7, g8]
        exact ⟨by omega, fr _ _ _ _ _ (by omega) p2 (by omega) (fun _ _ => rfl)⟩
      · intro m' x' p1 p2
        simp +contextual (disch := omega) [Nat.add_assoc, Int.add_assoc, if_pos, if_neg, -Int.not_lt, -Int.not_le, -Nat.not_lt, -Nat.not_le, -List.length_flatMap]
        exact he _ _ (by omega) (frE _ _ _ p2 (by omega))
    · simp +contextual (disch := omega) [Nat.add_assoc, Int.add_assoc, if_pos, if_neg, -Int.not_lt, -Int.not_le, -Nat.not_lt, -Nat.not_le, -List.length_flatMap, leq_All_1.b2, g0, g1, g7, g8, ha, hk, hn0]
      refine for_w (fun i e m' x' => e 0 = .fn (.yield ll) [] [] ∧ e 1 = .p a 0 ∧ e 3 = .i .u64 k ∧ e 4 = .ms (x + 4) 0 n 1 ∧ e 7 = .i .u64 N ∧ e 8 = .i .u64 k ∧ e 14 = .i .i64 n ∧ e 15 = .i .i64 i ∧ x + 5 ≤ x' ∧ m' (x + 4) = some (.cells (((caseP k n).take i ++ List.replicate (n - i) false).flatMap cB) false) ∧ (∀ j, j < x → m' j = m j)) n ?_ ?_ ?_
      · have hzb := zerosB n
        simp +contextual (disch := omega) [Nat.add_assoc, Int.add_assoc, if_pos, if_neg, -Int.not_lt, -Int.not_le, -Nat.not_lt, -Nat.not_le, -List.length_flatMap, g0, g1, g7, g8, hzb]
      · rintro i e m' x' hi ⟨q0, q1, q3, q4, q7, q8, q14, q15, qx, ym, yj⟩
        have hsr := set_rep k n i hi
        have hln : ((caseP k n).take i ++ List.replicate (n - i) false).length = n := by
          have := caseP_len k n
          simp [List.length_take]; omega
        have hln2 : (((caseP k n).take i ++ List.replicate (n - i) false).flatMap cB).length = n := by rw [flatB_len, hln]
        have hfs := flatB_set (l := (caseP k n).take i ++ List.replicate (n - i) false) (j := i) (v := decide (k / 2 ^ i % 2 = 1)) (by omega)
        rw [hsr] at hfs
        generalize ((caseP k n).take i ++ List.replicate (n - i) false).flatMap cB = Z at *
        have hsq := shr_nat (k := k) (i := i) (by omega)
        have hle : k / 2 ^ i ≤ k := Nat.div_le_self _ _
        generalize k / 2 ^ i = q at *
        have ha1 := and1u (a := q) (by omega)
        have hdq : decide (¬ ((q % 2 : Nat) : Int) = 0) = decide (q % 2 = 1) := by rw [decide_eq_decide]; omega
        simp +contextual (disch := omega) [Nat.add_assoc, Int.add_assoc, if_pos, if_neg, -Int.not_lt, -Int.not_le, -Nat.not_lt, -Nat.not_le, -List.length_flatMap, leq_All_1.b1, q0, q1, q3, q4, q7, q8, q14, q15, ym, hi, hln2, hsq, ha1]
        have e1 : (!decide ((q : Int) % 2 = 0)) = decide (q % 2 = 1) := by
          rw [← decide_not, decide_eq_decide]; omega
        rw [e1, hfs, List.flatMap_append]
        exact ⟨by omega, rfl, yj⟩
      · rintro e m' x' ⟨q0, q1, q3, q4, q7, q8, q14, q15, qx, ym, yj⟩
        rw [Nat.sub_self, List.replicate_zero, List.append_nil, List.take_of_length_le (by rw [caseP_len]; exact Nat.le_refl _)] at ym
        simp +contextual (disch := omega) [Nat.add_assoc, Int.add_assoc, if_pos, if_neg, -Int.not_lt, -Int.not_le, -Nat.not_lt, -Nat.not_le, -List.length_flatMap, leq_All_1.b1, q0, q1, q3, q4, q7, q8, q14, q15]
        refine hs k hk _ x _ (.ms (x + 4) 0 n 1) _ gx (by omega) (fr _ _ _ _ _ gx gI (Nat.le_refl _) yj) (.inr ⟨x + 4, by rw [caseP_len], ym, by omega, by omega⟩) ?_ ?_
        · intro m2 x2 p1 p2
          simp +contextual (disch := omega) [Nat.add_assoc, Int.add_assoc, if_pos, if_neg, -Int.not_lt, -Int.not_le, -Nat.not_lt, -Nat.not_le, -List.length_flatMap, q0, q1, q7, q8]
          exact ⟨by omega, fr _ _ _ _ _ (by omega) p2 (by omega) (fun _ _ => rfl)⟩
        · intro m2 x2 p1 p2
          simp +contextual (disch := omega) [Nat.add_assoc, Int.add_assoc, if_pos, if_neg, -Int.not_lt, -Int.not_le, -Nat.not_lt, -Nat.not_le, -List.length_flatMap]
          exact he _ _ (by omega) (frE _ _ _ p2 (by omega))
  · rintro e m x ⟨g0, g1, g7, g8, gx, gI⟩
    simp +contextual (disch := omega) [Nat.add_assoc, Int.add_assoc, if_pos, if_neg, -Int.not_lt, -Int.not_le, -Nat.not_lt, -Nat.not_le, -List.length_flatMap, leq_All_1.b2, g0, g1, g7, g8]
    exact hd _ _ (by omega) (fr _ _ _ _ _ gx gI (by omega) (fun _ _ => rfl))
end Pi
