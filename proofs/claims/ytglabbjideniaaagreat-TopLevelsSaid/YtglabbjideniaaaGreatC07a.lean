/- Contracts: levels by cases (layer 7): all cases. -/
import Derived.Test.YtglabbjideniaaaGreatC09d
import Derived.Test.YtglabbjideniaaaGreatEnc
import Derived.Test.YtglabbjideniaaaGreatC06d
set_option linter.unusedSimpArgs false
set_option linter.unusedVariables false
namespace Pi
/-- The k-th case of so many parameters. -/
def caseP (k n : Nat) : List Bool := (List.range n).map fun i => decide (k / 2 ^ i % 2 = 1)
theorem caseP_len (k n : Nat) : (caseP k n).length = n := by simp [caseP]
theorem caseP_at (k n i : Nat) (hi : i < n) : (caseP k n)[i]? = some (decide (k / 2 ^ i % 2 = 1)) := by simp [caseP, hi]
theorem shr_nat {k i : Nat} (hi : i ≤ 64) : bin .shr (.i .u64 (k : Nat)) (.i .i64 (i : Nat)) = some (.i .u64 ((k / 2 ^ i : Nat) : Int)) := by
  have e : min ((i : Int)).toNat (Go.IntKind.u64.bits) = i := by simp [Go.IntKind.bits]; omega
  have h : ¬ ((i : Int) < 0) := by omega
  simp only [bin, h, if_false, e]
  congr 2
  rw [Int.fdiv_eq_ediv_of_nonneg _ (Int.le_of_lt (Int.pow_pos (by omega)))]
  norm_cast
theorem and1u {a : Nat} (ha : a < 1000) : bin .and (.i .u64 (a : Nat)) (.i .u64 1) = some (.i .u64 ((a % 2 : Nat) : Int)) := by
  simp only [bin, binI, if_true]
  congr 2
  have h1 : (BitVec.ofInt 64 a &&& BitVec.ofInt 64 1).toNat = a % 2 := by
    rw [BitVec.toNat_and]
    have e2 : (BitVec.ofInt 64 1).toNat = 2 ^ 1 - 1 := by decide
    rw [e2, Nat.and_two_pow_sub_one_eq_mod, BitVec.toNat_ofInt]
    have : (2 : Nat) ^ 64 = 18446744073709551616 := by decide
    omega
  have e3 : Go.IntKind.u64.bits = 64 := rfl
  rw [e3, h1]
  simp [Go.IntKind.wrap, Go.IntKind.signed, Go.IntKind.bits]
  omega
theorem shl1 {n : Nat} (hn : n ≤ 5) : bin .shl (.i .u64 1) (.i .i64 (n : Nat)) = some (.i .u64 ((2 ^ n : Nat) : Int)) ∧ bin .shl (.i .i64 1) (.i .i64 (n : Nat)) = some (.i .i64 ((2 ^ n : Nat) : Int)) := by
  have : n = 0 ∨ n = 1 ∨ n = 2 ∨ n = 3 ∨ n = 4 ∨ n = 5 := by omega
  rcases this with rfl | rfl | rfl | rfl | rfl | rfl <;> exact ⟨rfl, rfl⟩
theorem pow32 {n : Nat} (hn : n ≤ 5) : 2 ^ n ≤ 32 := by
  have : n = 0 ∨ n = 1 ∨ n = 2 ∨ n = 3 ∨ n = 4 ∨ n = 5 := by omega
  rcases this with rfl | rfl | rfl | rfl | rfl | rfl <;> decide
theorem set_rep (k n i : Nat) (hi : i < n) : ((caseP k n).take i ++ List.replicate (n - i) false).set i (decide (k / 2 ^ i % 2 = 1)) = (caseP k n).take (i + 1) ++ List.replicate (n - (i + 1)) false := by
  have hl : ((caseP k n).take i).length = i := by rw [List.length_take, caseP_len]; omega
  obtain ⟨d, hd⟩ : ∃ d, n - i = d + 1 := ⟨n - i - 1, by omega⟩
  rw [List.set_append_right _ _ (by omega), hl, Nat.sub_self, hd, List.replicate_succ, List.set_cons_zero, List.take_add_one, caseP_at k n i hi, List.append_assoc, (by omega : n - (i + 1) = d)]
  rfl
theorem flatB_map (l : List Bool) : l.flatMap cB = l.map V.b := by induction l <;> simp_all [cB]
theorem flatB_len (l : List Bool) : (l.flatMap cB).length = l.length := by rw [flatB_map, List.length_map]
theorem flatB_set {l : List Bool} {j : Nat} {v : Bool} (h : j < l.length) : (l.flatMap cB).take j ++ V.b v :: (l.flatMap cB).drop (j + 1) = (l.set j v).flatMap cB := by
  rw [flatB_map, flatB_map, take_set (by rw [List.length_map]; exact h), List.map_set]
theorem zerosB (n : Nat) : zeros [V.b false] n = (List.replicate n false).flatMap cB := by
  induction n with
  | zero => rfl
  | succ n ih => rw [List.replicate_succ, List.flatMap_cons, zeros, ih]; rfl
/-- A case in memory. -/
def Zm (m : Sto) (B : V) (l : List Bool) (lo x : Nat) : Prop := (B = .ns ∧ l = []) ∨ ∃ b, B = .ms b 0 l.length 1 ∧ m b = some (.cells (l.flatMap cB) false) ∧ lo ≤ b ∧ b < x
theorem Zm.bf {m : Sto} {B : V} {l : List Bool} {lo x : Nat} (h : Zm m B l lo x) : Bf m B cB 1 l lo x := by
  rcases h with ⟨rfl, rfl⟩ | ⟨a, rfl, h1, h2, h3⟩
  · exact Bf.nil
  · exact .mem h1 rfl rfl h2 h3
set_option maxHeartbeats 1000000 in
theorem leq_All_1.w {n : Nat} (hn : n ≤ 5) {a ll x0 : Nat} {m : Sto} {K : CR → Sto → Nat → Prop} (I : Nat → Sto → Nat → Prop) (E : Sto → Nat → Prop)
    (hI : ∀ k m x, I k m x → m a = some (.cells [.i .i64 n] false)) (fr : ∀ k m x m' x', x0 ≤ x → I k m x → x ≤ x' → (∀ j, j < x → m' j = m j) → I k m' x') (h0 : I 0 m x0) (frE : ∀ m x x', E m x → x ≤ x' → E m x')
    (hs : ∀ (k : Nat), k < 2 ^ n → ∀ m y x B K', x0 ≤ y → y ≤ x → I k m y → Zm m B (caseP k n) y x → (∀ m' x', x ≤ x' → I (k + 1) m' x' → K' (.ret (.b true)) m' x') → (∀ m' x', x ≤ x' → E m' x' → K' (.ret (.b false)) m' x') →
      wpCall ctx (.fn (.yield ll) [] []) [B] m x K')
    (hd : ∀ m' x', x0 ≤ x' → I (2 ^ n) m' x' → K (.ret (.tu [])) m' x') (he : ∀ m' x', x0 ≤ x' → E m' x' → K (.ret (.tu [])) m' x') :
    wpCall ctx (.fn (.func leq_All_1.n) [] [.p a 0]) [.fn (.yield ll) [] []] m x0 K := by
  refine openg_w leq_All_1.f rfl (.inr (by simp +contextual (disch := omega) [Nat.add_assoc, Int.add_assoc, if_pos, if_neg, -Int.not_lt, -Int.not_le, -Nat.not_lt, -Nat.not_le, -List.length_flatMap])) ?_
  have ha := hI _ _ _ h0
  have hsh := (shl1 hn).1
  have h32 := pow32 hn
  obtain ⟨N, hN⟩ : ∃ N : Nat, N = 2 ^ n := ⟨_, rfl⟩
  rw [← hN] at hsh hs hd h32
  simp +contextual (disch := omega) [Nat.add_assoc, Int.add_assoc, if_pos, if_neg, -Int.not_lt, -Int.not_le, -Nat.not_lt, -Nat.not_le, -List.length_flatMap, leq_All_1.c, ha, hsh]
  refine for_w (fun k e m x => e 0 = .fn (.yield ll) [] [] ∧ e 1 = .p a 0 ∧ e 7 = .i .u64 N ∧ e 8 = .i .u64 k ∧ x0 ≤ x ∧ I k m x) N ?_ ?_ ?_
  · simp +contextual (disch := omega) [Nat.add_assoc, Int.add_assoc, if_pos, if_neg, -Int.not_lt, -Int.not_le, -Nat.not_lt, -Nat.not_le, -List.length_flatMap]
    exact fr _ _ _ _ _ (Nat.le_refl _) h0 (by omega) (fun _ _ => rfl)
  · rintro k e m x hk ⟨g0, g1, g7, g8, gx, gI⟩
    have ha := hI _ _ _ gI
    by_cases hn0 : n = 0
    · subst hn0
      simp +contextual (disch := omega) [Nat.add_assoc, Int.add_assoc, if_pos, if_neg, -Int.not_lt, -Int.not_le, -Nat.not_lt, -Nat.not_le, -List.length_flatMap, leq_All_1.b2, g0, g1, g7, g8, ha, hk]
      refine un_w ?_
      simp +contextual (disch := omega) [Nat.add_assoc, Int.add_assoc, if_pos, if_neg, -Int.not_lt, -Int.not_le, -Nat.not_lt, -Nat.not_le, -List.length_flatMap, leq_All_1.b1, g0]
      refine hs k hk _ x _ .ns _ gx (by omega) gI (.inl ⟨rfl, rfl⟩) ?_ ?_
      · intro m' x' p1 p2
        simp +contextual (disch := omega) [Nat.add_assoc, Int.add_assoc, if_pos, if_neg, -Int.not_lt, -Int.not_le, -Nat.not_lt, -Nat.not_le, -List.length_flatMap, g0, g1, g7, g8]
        exact ⟨by omega, fr _ _ _ _ _ (by omega) p2 (by omega) (fun _ _ => rfl)⟩
      · intro m' x' p1 p2
        simp +contextual (disch := omega) [Nat.add_assoc, Int.add_assoc, if_pos, if_neg, -Int.not_lt, -Int.not_le, -Nat.not_lt, -Nat.not_le, -List.length_flatMap]
        exact he _ _ (by omega) (frE _ _ _ p2 (by omega))
    · simp +contextual (disch := omega) [Nat.add_assoc, Int.add_assoc, if_pos, if_neg, -Int.not_lt, -Int.not_le, -Nat.not_lt, -Nat.not_le, -List.length_flatMap, leq_All_1.b2, g0, g1, g7, g8, ha, hk, hn0]
      refine for_w (fun i e m' x' => e 0 = .fn (.yield ll) [] [] ∧ e 1 = .p a 0 ∧ e 3 = .i .u64 k ∧ e 4 = .ms (x + 4) 0 n 1 ∧ e 7 = .i .u64 N ∧ e 8 = .i .u64 k ∧ e 14 = .i .i64 n ∧ e 15 = .i .i64 i ∧ x + 5 ≤ x' ∧ m' (x + 4) = some (.cells (((caseP k n).take i ++ List.replicate (n - i) false).flatMap cB) false) ∧ (∀ j, j < x → m' j = m j)) n ?_ ?_ ?_
      · have hzb := zerosB n
        simp +contextual (disch := omega) [Nat.add_assoc, Int.add_assoc, if_pos, if_neg, -Int.not_lt, -Int.not_le, -Nat.not_lt, -Nat.not_le, -List.length_flatMap, g0, g1, g7, g8, hzb]
      · rintro i e m' x' hi ⟨q0, q1, q3, q4, q7, q8, q14, q15, qx, ym, yj⟩
        have hsr := set_rep k n i hi
        have hln : ((caseP k n).take i ++ List.replicate (n - i) false).length = n := by
          have := caseP_len k n
          simp [List.length_take]; omega
        have hln2 : (((caseP k n).take i ++ List.replicate (n - i) false).flatMap cB).length = n := by rw [flatB_len, hln]
        have hfs := flatB_set (l := (caseP k n).take i ++ List.replicate (n - i) false) (j := i) (v := decide (k / 2 ^ i % 2 = 1)) (by omega)
        rw [hsr] at hfs
        generalize ((caseP k n).take i ++ List.replicate (n - i) false).flatMap cB = Z at *
        have hsq := shr_nat (k := k) (i := i) (by omega)
        have hle : k / 2 ^ i ≤ k := Nat.div_le_self _ _
        generalize k / 2 ^ i = q at *
        have ha1 := and1u (a := q) (by omega)
        have hdq : decide (¬ ((q % 2 : Nat) : Int) = 0) = decide (q % 2 = 1) := by rw [decide_eq_decide]; omega
        simp +contextual (disch := omega) [Nat.add_assoc, Int.add_assoc, if_pos, if_neg, -Int.not_lt, -Int.not_le, -Nat.not_lt, -Nat.not_le, -List.length_flatMap, leq_All_1.b1, q0, q1, q3, q4, q7, q8, q14, q15, ym, hi, hln2, hsq, ha1]
        have e1 : (!decide ((q : Int) % 2 = 0)) = decide (q % 2 = 1) := by
          rw [← decide_not, decide_eq_decide]; omega
        rw [e1, hfs, List.flatMap_append]
        exact ⟨by omega, rfl, yj⟩
      · rintro e m' x' ⟨q0, q1, q3, q4, q7, q8, q14, q15, qx, ym, yj⟩
        rw [Nat.sub_self, List.replicate_zero, List.append_nil, List.take_of_length_le (by rw [caseP_len]; exact Nat.le_refl _)] at ym
        simp +contextual (disch := omega) [Nat.add_assoc, Int.add_assoc, if_pos, if_neg, -Int.not_lt, -Int.not_le, -Nat.not_lt, -Nat.not_le, -List.length_flatMap, leq_All_1.b1, q0, q1, q3, q4, q7, q8, q14, q15]
        refine hs k hk _ x _ (.ms (x + 4) 0 n 1) _ gx (by omega) (fr _ _ _ _ _ gx gI (Nat.le_refl _) yj) (.inr ⟨x + 4, by rw [caseP_len], ym, by omega, by omega⟩) ?_ ?_
        · intro m2 x2 p1 p2
          simp +contextual (disch := omega) [Nat.add_assoc, Int.add_assoc, if_pos, if_neg, -Int.not_lt, -Int.not_le, -Nat.not_lt, -Nat.not_le, -List.length_flatMap, q0, q1, q7, q8]
          exact ⟨by omega, fr _ _ _ _ _ (by omega) p2 (by omega) (fun _ _ => rfl)⟩
        · intro m2 x2 p1 p2
          simp +contextual (disch := omega) [Nat.add_assoc, Int.add_assoc, if_pos, if_neg, -Int.not_lt, -Int.not_le, -Nat.not_lt, -Nat.not_le, -List.length_flatMap]
          exact he _ _ (by omega) (frE _ _ _ p2 (by omega))
  · rintro e m x ⟨g0, g1, g7, g8, gx, gI⟩
    simp +contextual (disch := omega) [Nat.add_assoc, Int.add_assoc, if_pos, if_neg, -Int.not_lt, -Int.not_le, -Nat.not_lt, -Nat.not_le, -List.length_flatMap, leq_All_1.b2, g0, g1, g7, g8]
    exact hd _ _ (by omega) (fr _ _ _ _ _ gx gI (by omega) (fun _ _ => rfl))
end Pi


set_option linter.unusedSimpArgs false
set_option linter.unusedVariables false
namespace Pi
theorem flatten_ok {l : L} {z : List Bool} {n : Nat} (hz : z.length = n) (h : RightS l n 0 = true) : flattenV l z = .tu [.ag (cF (flattenF l z)), .i .i64 0] := by
  unfold flattenV
  rw [hz, if_pos h]
end Pi


set_option linter.unusedSimpArgs false
set_option linter.unusedVariables false
namespace Pi
structure Kn where
  a : L
  b : L
  deriving Inhabited
def cK (c : Kn) : List V := cL c.a ++ cL c.b
@[simp] theorem cK_len (c : Kn) : (cK c).length = 6 := by simp [cK]
@[simp] theorem cK_fz (c : Kn) (D : Nat → Option (Bool × List V × List V × List Nat)) : frzL D (cK c) = some (cK c, []) := by
  have := (Rm.full (f := cL) (k := 3) [c.a, c.b]).fz (D := D)
  rwa [List.flatMap_cons, List.flatMap_cons, List.flatMap_nil, List.append_nil] at this
instance : Cel cK 6 := ⟨cK_len, by decide, cK_fz⟩
@[simp] theorem cK_take6 (c : Kn) : (cK c).take 6 = cK c := List.take_of_length_le (by simp)
@[simp] theorem cK_take3 (c : Kn) : (cK c).take 3 = cL c.a := by unfold cK; simp
@[simp] theorem cK_drop3 (c : Kn) : (cK c).drop 3 = cL c.b := by unfold cK; simp
@[simp] theorem cK_mk (a b : L) : cL a ++ cL b = cK ⟨a, b⟩ := rfl
def Kn.Ok (c : Kn) : Prop := c.a.Ok ∧ c.b.Ok
def rightK (p : Int) (c : Kn) : Bool := RightS c.a p 0 && RightS c.b p 0
def RightU (cs : List Kn) (p : Int) : Bool := decide (0 ≤ p) && decide (p ≤ 5) && decide (cs.length ≤ 8) && cs.all (rightK p)
/-- A flat's atoms. -/
def atomsO : List Int → Nat → List A
  | [], _ => []
  | n :: r, i => if 0 ≤ n then ⟨i, n⟩ :: atomsO r (i + 1) else atomsO r (i + 1)
def atomsF (f : F) : List A := ⟨0, f.cst⟩ :: atomsO f.offs 1
/-- What holds in a case. -/
def clZ : List Bool → Nat → List C
  | [], _ => []
  | z :: r, i => if z then clZ r (i + 1) else ⟨[⟨i, 0⟩], ⟨0, 1⟩⟩ :: clZ r (i + 1)
def clKn (z : List Bool) (c : Kn) : List C := (atomsF (flattenF c.a z)).map fun t => ⟨atomsF (flattenF c.b z), t⟩
def clU (cs : List Kn) (z : List Bool) : List C := clZ z 1 ++ cs.flatMap (clKn z)
theorem atomsO_len : ∀ (l : List Int) (i : Nat), (atomsO l i).length ≤ l.length
  | [], _ => by simp [atomsO]
  | n :: r, i => by
    have := atomsO_len r (i + 1)
    unfold atomsO
    split <;> simp <;> omega
theorem atomsF_len (f : F) : (atomsF f).length ≤ f.offs.length + 1 := by
  have := atomsO_len f.offs 1
  simp [atomsF]; omega
theorem atomsO_app : ∀ (a b : List Int) (i : Nat), atomsO (a ++ b) i = atomsO a i ++ atomsO b (i + a.length)
  | [], b, i => by simp [atomsO]
  | n :: a, b, i => by
    rw [List.cons_append, atomsO, atomsO, atomsO_app a b (i + 1), List.length_cons, (by omega : i + 1 + a.length = i + (a.length + 1))]
    split <;> simp
theorem clZ_len : ∀ (l : List Bool) (i : Nat), (clZ l i).length ≤ l.length
  | [], _ => by simp [clZ]
  | n :: r, i => by
    have := clZ_len r (i + 1)
    unfold clZ
    split <;> simp <;> omega
theorem clZ_app : ∀ (a b : List Bool) (i : Nat), clZ (a ++ b) i = clZ a i ++ clZ b (i + a.length)
  | [], b, i => by simp [clZ]
  | n :: a, b, i => by
    rw [List.cons_append, clZ, clZ, clZ_app a b (i + 1), List.length_cons, (by omega : i + 1 + a.length = i + (a.length + 1))]
    split <;> simp
theorem flattenF_len {l : L} {z : List Bool} (h : RightS l z.length 0 = true) : (flattenF l z).offs.length = z.length := by
  obtain ⟨hp, hr⟩ := RightS_ok (q := 0) h
  have hbd := ofS_bd l z 12 hr
  unfold flattenF
  split
  · exact hbd.1
  · exact hbd.1
end Pi


set_option linter.unusedSimpArgs false
set_option linter.unusedVariables false
namespace Pi
theorem slices_IndexFunc_Con.a (l : List Kn) (g : Nat) (caps : List V) (p : Kn → Bool) (hg : (ctx.opn g || ctx.frz g) = false) (hpr : ctx.prim g = none) (hc : ∀ D, frzL D caps = some (caps, [])) (h : ∀ k ∈ l, Ans ctx g ((.ag (cK k)) :: caps) (.b (p k))) (hl : l.length ≤ 9223372036854775807) :
    Ans ctx slices_IndexFunc_Con.n [sV cK l, .fn (.func g) [] caps] (.i .i64 (idxS p l)) := by
  refine ans slices_IndexFunc_Con.f ?_
  simp +contextual (disch := omega) [Nat.add_assoc, Int.add_assoc, if_pos, if_neg, -Int.not_lt, -Int.not_le, -Nat.not_lt, -Nat.not_le, -List.length_flatMap, slices_IndexFunc_Con.c]
  refine for_w (fun i e m x => e 0 = sV cK l ∧ e 1 = .fn (.func g) [] caps ∧ e 7 = .i .i64 l.length ∧ e 8 = .i .i64 i ∧ (l.take i).all (fun a => !p a) = true) l.length ?_ ?_ ?_
  · simp +contextual (disch := omega) [Nat.add_assoc, Int.add_assoc, if_pos, if_neg, -Int.not_lt, -Int.not_le, -Nat.not_lt, -Nat.not_le, -List.length_flatMap]
  · rintro i e m x hi ⟨g1, g2, g3, g4, g5⟩
    have hk := h l[i] (List.getElem_mem hi)
    obtain ⟨q1, q2⟩ := idx_take hi g5
    cases hp : p l[i] with
    | true =>
      rw [hp] at hk
      simp +contextual (disch := omega) [Nat.add_assoc, Int.add_assoc, if_pos, if_neg, -Int.not_lt, -Int.not_le, -Nat.not_lt, -Nat.not_le, -List.length_flatMap, slices_IndexFunc_Con.b1, g1, g2, g3, g4, hi, CallX_cl (C := ctx) (g := g) hpr (orF hg).1 (orF hg).2, hc, ansK hk, q1 hp]
    | false =>
      rw [hp] at hk
      simp +contextual (disch := omega) [Nat.add_assoc, Int.add_assoc, if_pos, if_neg, -Int.not_lt, -Int.not_le, -Nat.not_lt, -Nat.not_le, -List.length_flatMap, slices_IndexFunc_Con.b1, g1, g2, g3, g4, hi, CallX_cl (C := ctx) (g := g) hpr (orF hg).1 (orF hg).2, hc, ansK hk, q2 hp]
  · rintro e m x ⟨g1, g2, g3, g4, g5⟩
    rw [List.take_length] at g5
    simp +contextual (disch := omega) [Nat.add_assoc, Int.add_assoc, if_pos, if_neg, -Int.not_lt, -Int.not_le, -Nat.not_lt, -Nat.not_le, -List.length_flatMap, slices_IndexFunc_Con.b1, g1, g2, g3, g4, idx_all g5]
theorem slices_ContainsFunc_Con.a (l : List Kn) (g : Nat) (caps : List V) (p : Kn → Bool) (hg : (ctx.opn g || ctx.frz g) = false) (hpr : ctx.prim g = none) (hc : ∀ D, frzL D caps = some (caps, [])) (h : ∀ k ∈ l, Ans ctx g ((.ag (cK k)) :: caps) (.b (p k))) (hl : l.length ≤ 9223372036854775807) :
    Ans ctx slices_ContainsFunc_Con.n [sV cK l, .fn (.func g) [] caps] (.b (l.any p)) := by
  refine ans slices_ContainsFunc_Con.f ?_
  simp +contextual (disch := omega) [Nat.add_assoc, Int.add_assoc, if_pos, if_neg, -Int.not_lt, -Int.not_le, -Nat.not_lt, -Nat.not_le, -List.length_flatMap, slices_ContainsFunc_Con.c, hc, ansK (slices_IndexFunc_Con.a l g caps p hg hpr hc h hl), idx_ge]
theorem under_Right_1.a (c : Kn) (hc : c.Ok) (p : Int) : Ans ctx under_Right_1.n [.ag (cK c), .rp [.i .i64 p]] (.b (!rightK p c)) := by
  refine ans under_Right_1.f ?_
  have h1 := level_Right.a c.a hc.1 p 0
  have h2 := level_Right.a c.b hc.2 p 0
  unfold rightK
  cases e1 : RightS c.a p 0 with
  | false =>
    rw [e1] at h1
    simp +contextual (disch := omega) [Nat.add_assoc, Int.add_assoc, if_pos, if_neg, -Int.not_lt, -Int.not_le, -Nat.not_lt, -Nat.not_le, -List.length_flatMap, under_Right_1.c, ansK h1]
  | true =>
    rw [e1] at h1
    simp +contextual (disch := omega) [Nat.add_assoc, Int.add_assoc, if_pos, if_neg, -Int.not_lt, -Int.not_le, -Nat.not_lt, -Nat.not_le, -List.length_flatMap, under_Right_1.c, ansK h1, ansK h2]
theorem under_Right.a (cs : List Kn) (hc : ∀ c ∈ cs, c.Ok) (hl : cs.length ≤ 9223372036854775807) (p : Int) : Ans ctx under_Right.n [sV cK cs, .i .i64 p] (.b (RightU cs p)) := by
  refine ans under_Right.f ?_
  obtain ⟨R, hR⟩ : ∃ R, R = RightU cs p := ⟨_, rfl⟩
  rw [← hR]
  unfold RightU at hR
  by_cases h1 : p < 0
  · have : R = false := by rw [hR]; simp; omega
    simp +contextual (disch := omega) [Nat.add_assoc, Int.add_assoc, if_pos, if_neg, -Int.not_lt, -Int.not_le, -Nat.not_lt, -Nat.not_le, -List.length_flatMap, under_Right.c, h1, this]
  · by_cases h2 : 5 < p
    · have : R = false := by rw [hR]; simp; omega
      simp +contextual (disch := omega) [Nat.add_assoc, Int.add_assoc, if_pos, if_neg, -Int.not_lt, -Int.not_le, -Nat.not_lt, -Nat.not_le, -List.length_flatMap, under_Right.c, h1, h2, this]
    · by_cases h3 : 8 < cs.length
      · have : R = false := by rw [hR]; simp; omega
        simp +contextual (disch := omega) [Nat.add_assoc, Int.add_assoc, if_pos, if_neg, -Int.not_lt, -Int.not_le, -Nat.not_lt, -Nat.not_le, -List.length_flatMap, under_Right.c, h1, h2, h3, this]
      · have hcf := slices_ContainsFunc_Con.a cs under_Right_1.n [.rp [.i .i64 p]] (fun c => !rightK p c) rfl rfl (by simp) (fun c h => under_Right_1.a c (hc c h) p) (by omega)
        have e : R = !(cs.any fun c => !rightK p c) := by
          rw [hR, decide_eq_true (by omega : 0 ≤ p), decide_eq_true (by omega : p ≤ 5), decide_eq_true (by omega : cs.length ≤ 8), List.all_eq_not_any_not]
          simp
        simp +contextual (disch := omega) [Nat.add_assoc, Int.add_assoc, if_pos, if_neg, -Int.not_lt, -Int.not_le, -Nat.not_lt, -Nat.not_le, -List.length_flatMap, under_Right.c, h1, h2, h3, ansK hcf, e]
def atT (f : F) (i : Nat) : List A := ⟨0, f.cst⟩ :: atomsO (f.offs.take i) 1
theorem atT_s {f : F} {i : Nat} (hi : i < f.offs.length) : atT f (i + 1) = atT f i ++ (if 0 ≤ f.offs[i] then [⟨(i : Int) + 1, f.offs[i]⟩] else []) := by
  unfold atT
  rw [List.take_succ_eq_append_getElem hi, atomsO_app, List.cons_append]
  congr 2
  rw [List.length_take, Nat.min_eq_left (by omega)]
  simp only [atomsO]
  split <;> simp <;> omega
theorem atT_len (f : F) (i : Nat) : (atT f i).length ≤ i + 1 := by
  have := atomsO_len (f.offs.take i) 1
  simp [atT] at this ⊢
  omega
theorem under_situation_atoms.a (cs : List Kn) (z : List Bool) (l : L) (ok : l.Ok) (hr : RightS l z.length 0 = true) : Ans ctx under_situation_atoms.n [.ag [sV cK cs, sV cB z], .ag (cL l)] (sV cA (atomsF (flattenF l z))) := by
  refine ans under_situation_atoms.f ?_
  have hF := flat_Flatten.a l ok z (by have := (RightS_ok (q := 0) hr).1; omega)
  rw [flatten_ok rfl hr] at hF
  have hlo := flattenF_len hr
  have hz5 := (RightS_ok (q := 0) hr).1
  generalize flattenF l z = f at *
  simp +contextual (disch := omega) [Nat.add_assoc, Int.add_assoc, if_pos, if_neg, -Int.not_lt, -Int.not_le, -Nat.not_lt, -Nat.not_le, -List.length_flatMap, under_situation_atoms.c, ansK hF]
  refine for_w (fun i e m x => e 22 = sV cI f.offs ∧ e 23 = .i .i64 f.offs.length ∧ e 24 = .i .i64 i ∧ 10 ≤ x ∧ Bf m (e 7) cA 2 (atT f i) 10 x) f.offs.length ?_ ?_ ?_
  · simp +contextual (disch := omega) [Nat.add_assoc, Int.add_assoc, if_pos, if_neg, -Int.not_lt, -Int.not_le, -Nat.not_lt, -Nat.not_le, -List.length_flatMap]
    exact Bf.mem rfl rfl rfl (by omega) (by omega)
  · rintro i e m x hi ⟨g1, g2, g4, gx, gB⟩
    have hs := atT_s hi
    have hln := atT_len f i
    have hst := gB.stor
    have hsc := gB.cells
    generalize hB : e 7 = B at *
    rw [hs]
    by_cases h0 : 0 ≤ f.offs[i]
    · rw [if_pos h0]
      simp +contextual (disch := omega) [Nat.add_assoc, Int.add_assoc, if_pos, if_neg, -Int.not_lt, -Int.not_le, -Nat.not_lt, -Nat.not_le, -List.length_flatMap, under_situation_atoms.b1, g1, g2, g4, hB, hi, h0, hst, hsc, -apV_ns]
      refine gB.ap [⟨(i : Int) + 1, f.offs[i]⟩] (fun j h1 h2 => by simp +contextual (disch := omega) [Nat.add_assoc, Int.add_assoc, if_pos, if_neg, -Int.not_lt, -Int.not_le, -Nat.not_lt, -Nat.not_le, -List.length_flatMap]) (by omega) (by omega) rfl rfl (by simp; omega) ?_
      intro B' ws m2 z0 z1 z2 z3
      simp +contextual (disch := omega) [Nat.add_assoc, Int.add_assoc, if_pos, if_neg, -Int.not_lt, -Int.not_le, -Nat.not_lt, -Nat.not_le, -List.length_flatMap, z0, g1, g2, g4, z1.stor, z1.cells]
      exact z1.to rfl (by omega)
    · rw [if_neg h0, List.append_nil]
      simp +contextual (disch := omega) [Nat.add_assoc, Int.add_assoc, if_pos, if_neg, -Int.not_lt, -Int.not_le, -Nat.not_lt, -Nat.not_le, -List.length_flatMap, under_situation_atoms.b1, g1, g2, g4, hB, hi, h0]
      exact gB.up (by omega) (fun _ _ _ => rfl)
  · rintro e m x ⟨g1, g2, g4, gx, gB⟩
    have hz := gB.fz24
    have e1 : atT f f.offs.length = atomsF f := by unfold atT; rw [List.take_length]; rfl
    rw [e1] at hz
    generalize hB : e 7 = B at *
    simp +contextual (disch := omega) [Nat.add_assoc, Int.add_assoc, if_pos, if_neg, -Int.not_lt, -Int.not_le, -Nat.not_lt, -Nat.not_le, -List.length_flatMap, under_situation_atoms.b1, g1, g2, g4, hB, hz]
theorem under_situation_clauses.a (cs : List Kn) (z : List Bool) : Ans ctx under_situation_clauses.n [.ag [sV cK cs, sV cB z]] (.fn (.func under_situation_clauses_1.n) [] [.rp [sV cK cs, sV cB z]]) := by
  refine ans under_situation_clauses.f ?_
  simp +contextual (disch := omega) [Nat.add_assoc, Int.add_assoc, if_pos, if_neg, -Int.not_lt, -Int.not_le, -Nat.not_lt, -Nat.not_le, -List.length_flatMap, under_situation_clauses.c]
end Pi


set_option linter.unusedSimpArgs false
set_option linter.unusedVariables false
namespace Pi
theorem clZ_s {z : List Bool} {i : Nat} (hi : i < z.length) : clZ (z.take (i + 1)) 1 = clZ (z.take i) 1 ++ (if z[i] then [] else [⟨[⟨(i : Int) + 1, 0⟩], ⟨0, 1⟩⟩]) := by
  rw [List.take_succ_eq_append_getElem hi, clZ_app, List.length_take, Nat.min_eq_left (by omega)]
  simp only [clZ]
  split <;> simp <;> omega
theorem clZ_full (z : List Bool) : clZ (z.take z.length) 1 = clZ z 1 := by rw [List.take_length]
def GoodKs (cs : List Kn) (z : List Bool) : Prop := z.length ≤ 5 ∧ cs.length ≤ 8 ∧ ∀ c ∈ cs, c.Ok ∧ RightS c.a z.length 0 = true ∧ RightS c.b z.length 0 = true
theorem flat_le {α β : Type} {f : α → List β} {k : Nat} : ∀ {l : List α}, (∀ a ∈ l, (f a).length ≤ k) → (l.flatMap f).length ≤ k * l.length
  | [], _ => by simp
  | a :: r, h => by
    have h1 := h a (by simp)
    have h2 := flat_le (l := r) (f := f) (k := k) (fun b hb => h b (by simp [hb]))
    rw [List.flatMap_cons, List.length_append, List.length_cons, Nat.mul_succ]
    omega
theorem clKn_len {z : List Bool} (hz : z.length ≤ 5) {c : Kn} (h : RightS c.a z.length 0 = true) : (clKn z c).length ≤ 6 := by
  have := atomsF_len (flattenF c.a z)
  rw [flattenF_len h] at this
  simp [clKn]
  omega
theorem pre_len {cs : List Kn} {z : List Bool} (hg : GoodKs cs z) (i : Nat) : (clZ z 1 ++ (cs.take i).flatMap (clKn z)).length ≤ 53 := by
  have h1 := clZ_len z 1
  have h2 := flat_le (l := cs.take i) (f := clKn z) (k := 6) (fun c hc => clKn_len hg.1 (hg.2.2 c (List.mem_of_mem_take hc)).2.1)
  rw [List.length_append]
  have h3 : (cs.take i).length ≤ 8 := by rw [List.length_take]; have := hg.2.1; omega
  have := hg.1
  omega
def midK (pre : List C) (lb la : List A) (k : Nat) : List C := pre ++ (la.take k).map fun t => { frm := lb, to := t }
theorem midK_s {pre : List C} {lb la : List A} {k : Nat} (hk : k < la.length) : midK pre lb la (k + 1) = midK pre lb la k ++ [{ frm := lb, to := la[k] }] := by
  unfold midK
  rw [List.take_succ_eq_append_getElem hk, List.map_append, List.append_assoc]
  rfl
theorem midK_0 (pre : List C) (lb la : List A) : midK pre lb la 0 = pre := by simp [midK]
theorem midK_e (pre : List C) (lb la : List A) : midK pre lb la la.length = pre ++ la.map fun t => { frm := lb, to := t } := by rw [midK, List.take_length]
set_option maxRecDepth 20000 in
set_option maxHeartbeats 2000000 in
theorem clauses_w {cs : List Kn} {z : List Bool} (hg : GoodKs cs z) {ll x0 : Nat} {m : Sto} {K : CR → Sto → Nat → Prop} (I : List C → Sto → Nat → Prop)
    (fr : ∀ cl m x m' x', x0 ≤ x → I cl m x → x ≤ x' → (∀ j, j < x → m' j = m j) → I cl m' x') (h0 : I [] m x0)
    (hs : ∀ (cl : List C) (c : C) (F : V) m x1 x K', cl.length ≤ 100 → x0 ≤ x1 → x1 ≤ x → I cl m x1 → Rl (fun j => x1 ≤ j ∧ j < x) m cA 2 F c.frm → c.frm.length ≤ 6 → (∀ m' x', x ≤ x' → I (cl ++ [c]) m' x' → K' (.ret (.b true)) m' x') →
      wpCall ctx (.fn (.yield ll) [] []) [.ag [F, .i .i64 c.to.var, .i .i64 c.to.off]] m x K')
    (hd : ∀ m' x', x0 ≤ x' → I (clU cs z) m' x' → K (.ret (.tu [])) m' x') :
    wpCall ctx (.fn (.func under_situation_clauses_1.n) [] [.rp [sV cK cs, sV cB z]]) [.fn (.yield ll) [] []] m x0 K := by
  have hgg := hg
  obtain ⟨hz5, hc8, hcs⟩ := hg
  refine openg_w under_situation_clauses_1.f rfl (.inr (by simp +contextual (disch := omega) [Nat.add_assoc, Int.add_assoc, if_pos, if_neg, -Int.not_lt, -Int.not_le, -Nat.not_lt, -Nat.not_le, -List.length_flatMap])) ?_
  simp +contextual (disch := omega) [Nat.add_assoc, Int.add_assoc, if_pos, if_neg, -Int.not_lt, -Int.not_le, -Nat.not_lt, -Nat.not_le, -List.length_flatMap, under_situation_clauses_1.c]
  refine for_w (fun i e m x => e 0 = .fn (.yield ll) [] [] ∧ e 1 = .rp [sV cK cs, sV cB z] ∧ e 11 = sV cB z ∧ e 12 = .i .i64 z.length ∧ e 13 = .i .i64 i ∧ x0 ≤ x ∧ I (clZ (z.take i) 1) m x) z.length ?_ ?_ ?_
  · simp +contextual (disch := omega) [Nat.add_assoc, Int.add_assoc, if_pos, if_neg, -Int.not_lt, -Int.not_le, -Nat.not_lt, -Nat.not_le, -List.length_flatMap]
    exact fr _ _ _ _ _ (Nat.le_refl _) h0 (by omega) (fun _ _ => rfl)
  · rintro i e m x hi ⟨g0, g1, g11, g12, g13, gx, gI⟩
    rw [clZ_s hi]
    cases hzi : z[i] with
    | true =>
      simp +contextual (disch := omega) [Nat.add_assoc, Int.add_assoc, if_pos, if_neg, -Int.not_lt, -Int.not_le, -Nat.not_lt, -Nat.not_le, -List.length_flatMap, under_situation_clauses_1.b1, g0, g1, g11, g12, g13, hi, hzi]
      exact ⟨by omega, fr _ _ _ _ _ gx gI (by omega) (fun _ _ => rfl)⟩
    | false =>
      simp +contextual (disch := omega) [Nat.add_assoc, Int.add_assoc, if_pos, if_neg, -Int.not_lt, -Int.not_le, -Nat.not_lt, -Nat.not_le, -List.length_flatMap, under_situation_clauses_1.b1, g0, g1, g11, g12, g13, hi, hzi]
      have hBf : Bf (m.set (x + 13) (some (.cells [V.i .i64 ((i : Int) + 1), V.i .i64 0] false))) (.ms (x + 13) 0 1 2) cA 2 [⟨(i : Int) + 1, 0⟩] x (x + 16) := Bf.mem (Sto.seq _ _ _) rfl rfl (by omega) (by omega)
      refine hs _ ⟨[⟨(i : Int) + 1, 0⟩], ⟨0, 1⟩⟩ _ _ x _ _ (by have := clZ_len (z.take i) 1; rw [List.length_take] at this; omega) gx (by omega) (fr _ _ _ _ _ gx gI (Nat.le_refl _) (fun j hj => Sto.sne _ _ _ _ (by omega))) (Rl.Bf hBf) (by simp) ?_
      intro m' x' hx' hI'
      simp +contextual (disch := omega) [Nat.add_assoc, Int.add_assoc, if_pos, if_neg, -Int.not_lt, -Int.not_le, -Nat.not_lt, -Nat.not_le, -List.length_flatMap, g0, g1, g11, g12, g13]
      exact ⟨by omega, fr _ _ _ _ _ (by omega) hI' (by omega) (fun _ _ => rfl)⟩
  · rintro e m x ⟨g0, g1, g11, g12, g13, gx, gI⟩
    rw [clZ_full] at gI
    simp +contextual (disch := omega) [Nat.add_assoc, Int.add_assoc, if_pos, if_neg, -Int.not_lt, -Int.not_le, -Nat.not_lt, -Nat.not_le, -List.length_flatMap, under_situation_clauses_1.b1, g0, g1, g11, g12, g13]
    refine for_w (fun i e m x => e 0 = .fn (.yield ll) [] [] ∧ e 1 = .rp [sV cK cs, sV cB z] ∧ e 33 = sV cK cs ∧ e 34 = .i .i64 cs.length ∧ e 35 = .i .i64 i ∧ x0 ≤ x ∧ I (clZ z 1 ++ (cs.take i).flatMap (clKn z)) m x) cs.length ?_ ?_ ?_
    · simp +contextual (disch := omega) [Nat.add_assoc, Int.add_assoc, if_pos, if_neg, -Int.not_lt, -Int.not_le, -Nat.not_lt, -Nat.not_le, -List.length_flatMap, g0, g1]
      exact ⟨by omega, fr _ _ _ _ _ gx gI (by omega) (fun _ _ => rfl)⟩
    · rintro i e m x hi ⟨q0, q1, q33, q34, q35, qx, qI⟩
      obtain ⟨hok, hra, hrb⟩ := hcs _ (List.getElem_mem hi)
      have hA := under_situation_atoms.a cs z cs[i].a hok.1 hra
      have hB := under_situation_atoms.a cs z cs[i].b hok.2 hrb
      have hlb : (atomsF (flattenF cs[i].b z)).length ≤ 6 := by have := atomsF_len (flattenF cs[i].b z); rw [flattenF_len hrb] at this; omega
      have hla : (atomsF (flattenF cs[i].a z)).length ≤ 6 := by have := atomsF_len (flattenF cs[i].a z); rw [flattenF_len hra] at this; omega
      have hs1 : clZ z 1 ++ (cs.take (i + 1)).flatMap (clKn z) = (clZ z 1 ++ (cs.take i).flatMap (clKn z)) ++ clKn z cs[i] := by
        rw [List.take_succ_eq_append_getElem hi, List.flatMap_append, List.append_assoc]
        simp
      have hpl := pre_len hgg i
      rw [hs1]
      unfold clKn at *
      generalize atomsF (flattenF cs[i].b z) = lb at *
      generalize atomsF (flattenF cs[i].a z) = la at *
      generalize (clZ z 1 ++ (cs.take i).flatMap _) = pre at *
      simp +contextual (disch := omega) [Nat.add_assoc, Int.add_assoc, if_pos, if_neg, -Int.not_lt, -Int.not_le, -Nat.not_lt, -Nat.not_le, -List.length_flatMap, under_situation_clauses_1.b3, q0, q1, q33, q34, q35, hi, ansK hA, ansK hB]
      refine for_w (fun k e m x => e 0 = .fn (.yield ll) [] [] ∧ e 1 = .rp [sV cK cs, sV cB z] ∧ e 7 = sV cA lb ∧ e 33 = sV cK cs ∧ e 34 = .i .i64 cs.length ∧ e 35 = .i .i64 i ∧ e 46 = sV cA la ∧ e 47 = .i .i64 la.length ∧ e 48 = .i .i64 k ∧ x0 ≤ x ∧ I (midK pre lb la k) m x) la.length ?_ ?_ ?_
      · simp +contextual (disch := omega) [Nat.add_assoc, Int.add_assoc, if_pos, if_neg, -Int.not_lt, -Int.not_le, -Nat.not_lt, -Nat.not_le, -List.length_flatMap, q0, q1, q33, q34, q35]
        rw [midK_0]
        refine ⟨by omega, fr _ _ _ _ _ qx qI (by omega) (fun j hj => by simp +contextual (disch := omega) [Nat.add_assoc, Int.add_assoc, if_pos, if_neg, -Int.not_lt, -Int.not_le, -Nat.not_lt, -Nat.not_le, -List.length_flatMap])⟩
      · rintro k e m x hk ⟨q0, q1, q7, q33, q34, q35, q46, q47, q48, qx, qI⟩
        rw [midK_s hk]
        simp +contextual (disch := omega) [Nat.add_assoc, Int.add_assoc, if_pos, if_neg, -Int.not_lt, -Int.not_le, -Nat.not_lt, -Nat.not_le, -List.length_flatMap, under_situation_clauses_1.b2, q0, q1, q7, q33, q34, q35, q46, q47, q48, hk]
        refine hs (midK pre lb la k) ⟨lb, la[k]⟩ (sV cA lb) _ x _ _ (by simp [midK]; omega) qx (by omega) (fr _ _ _ _ _ qx qI (Nat.le_refl _) (fun j hj => by simp +contextual (disch := omega) [Nat.add_assoc, Int.add_assoc, if_pos, if_neg, -Int.not_lt, -Int.not_le, -Nat.not_lt, -Nat.not_le, -List.length_flatMap])) (Rl.sV _ _ _) hlb ?_
        intro m' x' hx' hI'
        simp +contextual (disch := omega) [Nat.add_assoc, Int.add_assoc, if_pos, if_neg, -Int.not_lt, -Int.not_le, -Nat.not_lt, -Nat.not_le, -List.length_flatMap, q0, q1, q7, q33, q34, q35, q46, q47, q48]
        exact ⟨by omega, fr _ _ _ _ _ (by omega) hI' (by omega) (fun _ _ => rfl)⟩
      · rintro e m x ⟨q0, q1, q7, q33, q34, q35, q46, q47, q48, qx, qI⟩
        rw [midK_e] at qI
        simp +contextual (disch := omega) [Nat.add_assoc, Int.add_assoc, if_pos, if_neg, -Int.not_lt, -Int.not_le, -Nat.not_lt, -Nat.not_le, -List.length_flatMap, under_situation_clauses_1.b2, q0, q1, q7, q33, q34, q35, q46, q47, q48]
        exact ⟨by omega, fr _ _ _ _ _ qx qI (by omega) (fun _ _ => rfl)⟩
    · rintro e m x ⟨q0, q1, q33, q34, q35, qx, qI⟩
      rw [List.take_length] at qI
      simp +contextual (disch := omega) [Nat.add_assoc, Int.add_assoc, if_pos, if_neg, -Int.not_lt, -Int.not_le, -Nat.not_lt, -Nat.not_le, -List.length_flatMap, under_situation_clauses_1.b3, q0, q1, q33, q34, q35]
      exact hd _ _ (by omega) (fr _ _ _ _ _ qx qI (by omega) (fun _ _ => rfl))
/-- All clauses, as a list in memory of its own. -/
theorem collect_w {cs : List Kn} {z : List Bool} (hg : GoodKs cs z) {m : Sto} {x : Nat} {K : CR → Sto → Nat → Prop}
    (hK : ∀ B fs m' x', x ≤ x' → (∀ j, j < x → m' j = m j) → Xc m' B (clU cs z) fs x x' → K (.ret B) m' x') :
    w ctx (envOf [.fn (.func under_situation_clauses_1.n) [] [.rp [sV cK cs, sV cB z]]]) m x [] none none (RetG ctx slices_Collect_Clause.c.rs K) slices_Collect_Clause.c.code := by
  simp +contextual (disch := omega) [Nat.add_assoc, Int.add_assoc, if_pos, if_neg, -Int.not_lt, -Int.not_le, -Nat.not_lt, -Nat.not_le, -List.length_flatMap, slices_Collect_Clause.c]
  rw [CallX_op (by rfl)]
  refine openg_w slices_AppendSeq_Clause.f rfl (.inl rfl) ?_
  have hfo : ctx.frz slices_AppendSeq_Clause.n = false := rfl
  rw [hfo]
  simp +contextual (disch := omega) [Nat.add_assoc, Int.add_assoc, if_pos, if_neg, -Int.not_lt, -Int.not_le, -Nat.not_lt, -Nat.not_le, -List.length_flatMap, slices_AppendSeq_Clause.c]
  refine gen_e (fun E => E 2 = .p (x + 2) 0 ∧ E 6 = .fn (.func under_situation_clauses_1.n) [] [.rp [sV cK cs, sV cB z]]) (by simp +contextual (disch := omega) [Nat.add_assoc, Int.add_assoc, if_pos, if_neg, -Int.not_lt, -Int.not_le, -Nat.not_lt, -Nat.not_le, -List.length_flatMap]) ?_
  rintro E ⟨E2, E6⟩
  refine rf_g fun A B hA hB => ?_
  simp +contextual (disch := omega) [Nat.add_assoc, Int.add_assoc, if_pos, if_neg, -Int.not_lt, -Int.not_le, -Nat.not_lt, -Nat.not_le, -List.length_flatMap, E6]
  refine clauses_w hg (fun cl m1 x1 => m1 (x + 5) = some .dfr ∧ m1 (x + 6) = some (.loop ⟨E, [7], A, B, .ready, none⟩) ∧ (∀ j, j < x → m1 j = m j) ∧ ∃ V fs, m1 (x + 2) = some (.cells [V] false) ∧ Xc m1 V cl fs (x + 7) x1) ?_ ?_ ?_ ?_
  · rintro cl m1 x1 m2 x2 hx1 ⟨q5, q6, qj, V, fs, q2, qX⟩ hx2 h
    exact ⟨(h _ (by omega)).trans q5, (h _ (by omega)).trans q6, fun j hj => (h _ (by omega)).trans (qj j hj), V, fs, (h _ (by omega)).trans q2, qX.up (Nat.le_refl _) hx2 (fun j _ h2 => h j h2)⟩
  · refine ⟨?_, ?_, fun j hj => ?_, .ns, [], ?_, Xc.nil⟩ <;> simp +contextual (disch := omega) [Nat.add_assoc, Int.add_assoc, if_pos, if_neg, -Int.not_lt, -Int.not_le, -Nat.not_lt, -Nat.not_le, -List.length_flatMap]
  · rintro cl c F m1 x1 y K' hcl hx1 hy ⟨q5, q6, qj, V, fs, q2, qX⟩ hF hf6 ht
    have hst := qX.rc.stor
    have hsc := qX.rc.cells
    refine yield_w q6 rfl rfl ?_
    refine w_as hA ?_
    simp +contextual (disch := omega) [Nat.add_assoc, Int.add_assoc, if_pos, if_neg, -Int.not_lt, -Int.not_le, -Nat.not_lt, -Nat.not_le, -List.length_flatMap, slices_AppendSeq_Clause.a1, q6, hF.stor, hF.cells]
    refine w_as hB ?_
    generalize hM1 : Sto.set _ (x + 6) _ = M1
    have v2 : M1 (x + 2) = some (.cells [V] false) := by rw [← hM1]; simp +contextual (disch := omega) [Nat.add_assoc, Int.add_assoc, if_pos, if_neg, -Int.not_lt, -Int.not_le, -Nat.not_lt, -Nat.not_le, -List.length_flatMap, q2]
    have v5 : M1 (x + 5) = some .dfr := by rw [← hM1]; simp +contextual (disch := omega) [Nat.add_assoc, Int.add_assoc, if_pos, if_neg, -Int.not_lt, -Int.not_le, -Nat.not_lt, -Nat.not_le, -List.length_flatMap, q5]
    have v6 : M1 (x + 6) = some (.loop ⟨E, [7], A, B, .busy, none⟩) := by rw [← hM1]; simp +contextual (disch := omega) [Nat.add_assoc, Int.add_assoc, if_pos, if_neg, -Int.not_lt, -Int.not_le, -Nat.not_lt, -Nat.not_le, -List.length_flatMap]
    have vy : M1 y = some (.cells [F, .i .i64 c.to.var, .i .i64 c.to.off] false) := by rw [← hM1]; simp +contextual (disch := omega) [Nat.add_assoc, Int.add_assoc, if_pos, if_neg, -Int.not_lt, -Int.not_le, -Nat.not_lt, -Nat.not_le, -List.length_flatMap]
    have vj : ∀ j, j < y → j ≠ x + 6 → M1 j = m1 j := fun j h1 h2 => by rw [← hM1]; simp +contextual (disch := omega) [Nat.add_assoc, Int.add_assoc, if_pos, if_neg, -Int.not_lt, -Int.not_le, -Nat.not_lt, -Nat.not_le, -List.length_flatMap]
    simp +contextual (disch := omega) [Nat.add_assoc, Int.add_assoc, if_pos, if_neg, -Int.not_lt, -Int.not_le, -Nat.not_lt, -Nat.not_le, -List.length_flatMap, slices_AppendSeq_Clause.b2, E2, v2, vy, hst, hsc, -apV_ns]
    refine qX.ap (dl := [c]) (gs := [F]) (lo := x + 7) (fun j h1 h2 => by simp +contextual (disch := omega) [Nat.add_assoc, Int.add_assoc, if_pos, if_neg, -Int.not_lt, -Int.not_le, -Nat.not_lt, -Nat.not_le, -List.length_flatMap, vj j (by omega) (by omega)]) (by omega) (Nat.le_refl _) (by omega) rfl rfl ⟨(hF.up (.eq fun j hj => by simp +contextual (disch := omega) [Nat.add_assoc, Int.add_assoc, if_pos, if_neg, -Int.not_lt, -Int.not_le, -Nat.not_lt, -Nat.not_le, -List.length_flatMap, vj j (by omega) (by omega)])).mono (fun j hj => by omega), trivial⟩ (by simp; omega) ?_
    intro B' ws m2 z0 z1 z2 z3
    have r2 : m2 (x + 2) = some (.cells [V] false) := by rw [z2 _ (by omega)]; simp +contextual (disch := omega) [Nat.add_assoc, Int.add_assoc, if_pos, if_neg, -Int.not_lt, -Int.not_le, -Nat.not_lt, -Nat.not_le, -List.length_flatMap, v2]
    have r5 : m2 (x + 5) = some .dfr := by rw [z2 _ (by omega)]; simp +contextual (disch := omega) [Nat.add_assoc, Int.add_assoc, if_pos, if_neg, -Int.not_lt, -Int.not_le, -Nat.not_lt, -Nat.not_le, -List.length_flatMap, v5]
    have r6 : m2 (x + 6) = some (.loop ⟨E, [7], A, B, .busy, none⟩) := by rw [z2 _ (by omega)]; simp +contextual (disch := omega) [Nat.add_assoc, Int.add_assoc, if_pos, if_neg, -Int.not_lt, -Int.not_le, -Nat.not_lt, -Nat.not_le, -List.length_flatMap, v6]
    have rj : ∀ j, j < x → m2 j = m j := fun j hj => by rw [z2 _ (by omega)]; simp +contextual (disch := omega) [Nat.add_assoc, Int.add_assoc, if_pos, if_neg, -Int.not_lt, -Int.not_le, -Nat.not_lt, -Nat.not_le, -List.length_flatMap, vj j (by omega) (by omega), qj j hj]
    simp +contextual (disch := omega) [Nat.add_assoc, Int.add_assoc, if_pos, if_neg, -Int.not_lt, -Int.not_le, -Nat.not_lt, -Nat.not_le, -List.length_flatMap, z0, E2, r2, r6, z1.rc.stor, z1.rc.cells]
    refine ht _ _ (by omega) ⟨by simp +contextual (disch := omega) [Nat.add_assoc, Int.add_assoc, if_pos, if_neg, -Int.not_lt, -Int.not_le, -Nat.not_lt, -Nat.not_le, -List.length_flatMap, r5], by simp +contextual (disch := omega) [Nat.add_assoc, Int.add_assoc, if_pos, if_neg, -Int.not_lt, -Int.not_le, -Nat.not_lt, -Nat.not_le, -List.length_flatMap], fun j hj => by simp +contextual (disch := omega) [Nat.add_assoc, Int.add_assoc, if_pos, if_neg, -Int.not_lt, -Int.not_le, -Nat.not_lt, -Nat.not_le, -List.length_flatMap, rj j hj], B', _, by simp +contextual (disch := omega) [Nat.add_assoc, Int.add_assoc, if_pos, if_neg, -Int.not_lt, -Int.not_le, -Nat.not_lt, -Nat.not_le, -List.length_flatMap], z1.up (by omega) (by omega) (fun j h1 h2 => by simp +contextual (disch := omega) [Nat.add_assoc, Int.add_assoc, if_pos, if_neg, -Int.not_lt, -Int.not_le, -Nat.not_lt, -Nat.not_le, -List.length_flatMap])⟩
  · rintro m1 x1 hx1 ⟨q5, q6, qj, V, fs, q2, qX⟩
    have hst := qX.rc.stor
    have hsc := qX.rc.cells
    simp +contextual (disch := omega) [Nat.add_assoc, Int.add_assoc, if_pos, if_neg, -Int.not_lt, -Int.not_le, -Nat.not_lt, -Nat.not_le, -List.length_flatMap, q5, q6, q2, E2, hst, hsc]
    exact hK _ _ _ _ (by omega) (fun j hj => by simp +contextual (disch := omega) [Nat.add_assoc, Int.add_assoc, if_pos, if_neg, -Int.not_lt, -Int.not_le, -Nat.not_lt, -Nat.not_le, -List.length_flatMap, qj j hj]) (qX.up (by omega) (by omega) (fun j h1 h2 => by simp +contextual (disch := omega) [Nat.add_assoc, Int.add_assoc, if_pos, if_neg, -Int.not_lt, -Int.not_le, -Nat.not_lt, -Nat.not_le, -List.length_flatMap]))
end Pi


set_option linter.unusedSimpArgs false
set_option linter.unusedVariables false
namespace Pi
/-- A model's values, in a case. -/
def valsZ (m : List Int) (z : List Bool) : List Int := (List.range z.length).map fun i => if z.getD i false then 0 else m.getD 0 0 - m.getD (i + 1) 0
def okU (z : List Bool) (l : List C) : Bool := rightC (z.length + 1 : Nat) l && (solveC (z.length + 1) l).2.1
def valsU (z : List Bool) (l : List C) : List Int := if okU z l = true then valsZ (solveC (z.length + 1) l).1 z else []
def valO (z : List Bool) (l : List C) : Option (List Int) := if okU z l = true then some (valsU z l) else none
theorem valO_some (z : List Bool) (l : List C) : (valO z l).isSome = okU z l := by unfold valO; cases okU z l <;> rfl
/-- Numbers of its own, or nil. -/
def outU (o : Option (List Int)) (x : Nat) : V := if o.getD [] = [] then .ns else .ms x 0 (o.getD []).length 1
def outC (o : Option (List Int)) : Option (List V) := if o.getD [] = [] then none else some ((o.getD []).flatMap cI)
theorem lone_cI (l : List Int) : (l.flatMap cI).all V.lone = true := by
  rw [List.all_eq_true]
  intro v hv
  obtain ⟨n, _, h⟩ := List.mem_flatMap.1 hv
  unfold cI at h
  rw [List.mem_singleton.1 h]
  rfl
theorem FrR_nil {o : Option (List Int)} (ho : o.getD [] = []) (b : Bool) (m : Sto) : FrR (fun x => .tu [outU o x, .b b]) (outC o) (.tu [.ns, .b b]) m := by
  unfold outU outC
  simp only [ho, if_true]
  intro x
  rfl
theorem FrR_cons {o : Option (List Int)} {l : List Int} (ho : o = some l) (hl : l ≠ []) (b : Bool) {m : Sto} {k : Nat} (h : m k = some (.cells (l.flatMap cI) false)) : FrR (fun x => .tu [outU o x, .b b]) (outC o) (.tu [.ms k 0 l.length 1, .b b]) m := by
  subst ho
  intro x
  simp [outV, outL, h, lone_cI, V.lone, hl, outU, outC]
theorem FrR_nil3 {o : Option (List Int)} (ho : o.getD [] = []) (b : Bool) (n : Int) (m : Sto) : FrR (fun x => .tu [.b b, outU o x, .i .i64 n]) (outC o) (.tu [.b b, .ns, .i .i64 n]) m := by
  unfold outU outC
  simp only [ho, if_true]
  intro x
  rfl
theorem FrR_cons3 {o : Option (List Int)} {l : List Int} (ho : o = some l) (hl : l ≠ []) (b : Bool) (n : Int) {m : Sto} {k : Nat} (h : m k = some (.cells (l.flatMap cI) false)) : FrR (fun x => .tu [.b b, outU o x, .i .i64 n]) (outC o) (.tu [.b b, .ms k 0 l.length 1, .i .i64 n]) m := by
  subst ho
  intro x
  simp [outV, outL, h, lone_cI, V.lone, hl, outU, outC]
theorem solveV_U (z : List Bool) (l : List C) : ∃ k e, solveV (z.length + 1 : Nat) l = .tu [sV cI (if rightC (z.length + 1 : Nat) l = true then (solveC (z.length + 1) l).1 else []), .b (okU z l), .i .i64 k, .i .i64 e] := by
  unfold solveV okU
  cases h : rightC (z.length + 1 : Nat) l with
  | true => exact ⟨_, _, rfl⟩
  | false => exact ⟨_, _, rfl⟩
theorem model_bd {z : List Bool} (hz : z.length ≤ 5) {l : List C} (h : okU z l = true) : (solveC (z.length + 1) l).1.length = z.length + 1 ∧ ∀ i, 0 ≤ (solveC (z.length + 1) l).1.getD i 0 ∧ (solveC (z.length + 1) l).1.getD i 0 ≤ 1000000 := by
  unfold okU at h
  simp only [Bool.and_eq_true] at h
  obtain ⟨r1, r2, r3, r4⟩ := right_ok h.1
  have hok : ∀ c ∈ l, okC ((z.length + 1 : Nat) : Int) c = true := r4
  rcases solve_spec (n := z.length + 1) (by omega) hok with ⟨_, hL, hb⟩ | ⟨h1, _⟩
  · have hms := mostS_bd hok
    refine ⟨by rw [hL.len, noughts_len], fun i => ⟨?_, ?_⟩⟩
    · have := hL.ge i
      rwa [noughts_at] at this
    · refine Int.le_trans (hb i) ?_
      unfold limC
      have h1 : (((z.length + 1 : Nat) : Int) - 1) * mostS l ≤ 5 * 1000 := Int.mul_le_mul (by omega) hms.2 hms.1 (by omega)
      omega
  · rw [h1] at h; cases h.2
theorem clU_frm {cs : List Kn} {z : List Bool} (hg : GoodKs cs z) : ∀ c ∈ clU cs z, c.frm.length ≤ 6 := by
  intro c hc
  rcases List.mem_append.1 hc with h | h
  · have : ∀ (l : List Bool) (i : Nat), ∀ c ∈ clZ l i, c.frm.length ≤ 6 := by
      intro l
      induction l with
      | nil => intro i c h; cases h
      | cons b r ih =>
        intro i c h
        unfold clZ at h
        split at h
        · exact ih _ c h
        · rcases List.mem_cons.1 h with rfl | h
          · simp
          · exact ih _ c h
    exact this z 1 c h
  · obtain ⟨k, hk, h⟩ := List.mem_flatMap.1 h
    obtain ⟨t, _, rfl⟩ := List.mem_map.1 h
    have h1 := atomsF_len (flattenF k.b z)
    rw [flattenF_len (hg.2.2 k hk).2.2] at h1
    have := hg.1
    simp only
    omega
def valT (m : List Int) (z : List Bool) (i : Nat) : List Int := (List.range z.length).map fun j => if j < i ∧ z.getD j false = false then m.getD 0 0 - m.getD (j + 1) 0 else 0
theorem valT_len (m : List Int) (z : List Bool) (i : Nat) : (valT m z i).length = z.length := by simp [valT]
theorem valT_0 (m : List Int) (z : List Bool) : valT m z 0 = List.replicate z.length 0 := by
  unfold valT
  refine List.ext_getElem (by simp) fun j h1 h2 => ?_
  simp
theorem valT_e (m : List Int) (z : List Bool) : valT m z z.length = valsZ m z := by
  unfold valT valsZ
  refine List.ext_getElem (by simp) fun j h1 h2 => ?_
  have hj : j < z.length := by simpa using h1
  simp only [List.getElem_map, List.getElem_range]
  cases hz : z.getD j false with
  | true => simp
  | false => simp [hj]
theorem valT_t {m : List Int} {z : List Bool} {i : Nat} (hi : i < z.length) (hz : z[i] = true) : valT m z (i + 1) = valT m z i := by
  unfold valT
  refine List.ext_getElem (by simp) fun j h1 h2 => ?_
  simp only [List.getElem_map, List.getElem_range]
  by_cases hji : j = i
  · subst hji
    have : z.getD j false = true := by rw [List.getD_eq_getElem?_getD, List.getElem?_eq_getElem hi, hz]; rfl
    rw [if_neg (fun h => by rw [this] at h; cases h.2), if_neg (fun h => by rw [this] at h; cases h.2)]
  · have e : (j < i + 1) = (j < i) := by rw [eq_iff_iff]; omega
    simp only [e]
theorem valT_f {m : List Int} {z : List Bool} {i : Nat} (hi : i < z.length) (hz : z[i] = false) : valT m z (i + 1) = (valT m z i).set i (m.getD 0 0 - m.getD (i + 1) 0) := by
  unfold valT
  refine List.ext_getElem (by simp) fun j h1 h2 => ?_
  rw [List.getElem_set]
  simp only [List.getElem_map, List.getElem_range]
  by_cases hji : i = j
  · subst hji
    have : z.getD i false = false := by rw [List.getD_eq_getElem?_getD, List.getElem?_eq_getElem hi, hz]; rfl
    rw [if_pos ⟨by omega, this⟩, if_pos rfl]
  · have e : (j < i + 1) = (j < i) := by rw [eq_iff_iff]; omega
    rw [if_neg hji]
    simp only [e]
set_option maxRecDepth 20000 in
set_option maxHeartbeats 2000000 in
theorem under_situation_values.r {cs : List Kn} {z : List Bool} (hg : GoodKs cs z) (more : List C) (hm : more.length ≤ 100) (hf : ∀ c ∈ more, c.frm.length ≤ 100) : AnsF ctx under_situation_values.n [.ag [sV cK cs, sV cB z], sV cC more] (fun x => .tu [outU (valO z (clU cs z ++ more)) x, .b (okU z (clU cs z ++ more))]) (outC (valO z (clU cs z ++ more))) := by
  obtain ⟨o, hW⟩ : ∃ o, o = valO z (clU cs z ++ more) := ⟨_, rfl⟩
  rw [← hW]
  refine ansf under_situation_values.f ?_
  simp +contextual (disch := omega) [Nat.add_assoc, Int.add_assoc, if_pos, if_neg, -Int.not_lt, -Int.not_le, -Nat.not_lt, -Nat.not_le, -List.length_flatMap, under_situation_values.c, ansK (under_situation_clauses.a cs z)]
  rw [CallX_op (by rfl)]
  refine openg_w slices_Collect_Clause.f rfl (.inl rfl) ?_
  have hfo : ctx.frz slices_Collect_Clause.n = false := rfl
  rw [hfo]
  refine collect_w hg ?_
  intro B fs m1 x1 hx1 hm1 hX
  obtain ⟨k, e, hsv⟩ := solveV_U z (clU cs z ++ more)
  obtain ⟨L, hL⟩ : ∃ L, L = clU cs z ++ more := ⟨_, rfl⟩
  have hcl := pre_len hg cs.length
  rw [List.take_length] at hcl
  have hcl2 : (clU cs z).length ≤ 53 := hcl
  have hS := solve_Solve.a (z.length + 1 : Nat) L (by rw [hL, List.length_append]; omega) (fun c hc => by
    rw [hL] at hc
    rcases List.mem_append.1 hc with h | h
    · have := clU_frm hg c h; omega
    · have := hf c h; omega)
  rw [hL, hsv, ← hL] at hS
  rw [← hL]
  have q0 : m1 0 = some (.cells [sV cK cs, sV cB z] false) := by rw [hm1 0 (by omega)]; simp +contextual (disch := omega) [Nat.add_assoc, Int.add_assoc, if_pos, if_neg, -Int.not_lt, -Int.not_le, -Nat.not_lt, -Nat.not_le, -List.length_flatMap]
  have hst := hX.rc.stor
  have hsc := hX.rc.cells
  simp +contextual (disch := omega) [Nat.add_assoc, Int.add_assoc, if_pos, if_neg, -Int.not_lt, -Int.not_le, -Nat.not_lt, -Nat.not_le, -List.length_flatMap, hst, hsc]
  refine hX.ap (dl := more) (gs := more.map fun c => sV cA c.frm) (lo := 4) (fun j _ _ => rfl) (by omega) (by omega) (by omega) (trips_sv more).symm rfl (Fr.sv _ _ more) (by omega) ?_
  intro B' ws m2 z0 z1 z2 z3
  rw [← hL] at z1
  have r0 : m2 0 = some (.cells [sV cK cs, sV cB z] false) := by rw [z2 0 (by omega), q0]
  obtain ⟨ids, hz, hids⟩ := z1.rc.fz24
  have hni : ∀ j, j < 4 → j ∉ ids := fun j hj h => by have := hids j h; omega
  have hst2 := z1.rc.stor
  have hsc2 := z1.rc.cells
  have hlr : ∀ w : V, aft w m2 ids 0 = some (.cells [sV cK cs, sV cB z] false) := fun w => by rw [aft_none _ _ _ _ (hni 0 (by omega)), r0]
  have hz5 := hg.1
  unfold valO valsU at hW
  rw [← hL] at hW
  have hmb := model_bd hz5 (l := L)
  have hcz : ((z.length : Int) + 1) = ((z.length + 1 : Nat) : Int) := by omega
  have hok : okU z L = true → rightC (z.length + 1 : Nat) L = true := fun h => by unfold okU at h; simp only [Bool.and_eq_true] at h; exact h.1
  cases hk : okU z L with
  | false =>
    rw [hk, ← hcz] at hS
    rw [hk, if_neg (by simp)] at hW
    simp +contextual (disch := omega) [Nat.add_assoc, Int.add_assoc, if_pos, if_neg, -Int.not_lt, -Int.not_le, -Nat.not_lt, -Nat.not_le, -List.length_flatMap, z0, r0, hz, ansK hS]
    exact FrR_nil (by rw [hW]; rfl) _ _
  | true =>
    obtain ⟨hml, hmb⟩ := hmb hk
    rw [hk, if_pos (hok hk), ← hcz] at hS
    rw [hk, if_pos rfl, if_pos rfl] at hW
    generalize (solveC (z.length + 1) L).1 = M at *
    by_cases hz0 : z = []
    · subst hz0
      have e0 : valsZ M [] = [] := rfl
      rw [e0] at hW
      have hS1 : Ans ctx solve_Solve.n [.i .i64 1, sV cC L] _ := hS
      simp +contextual (disch := omega) [Nat.add_assoc, Int.add_assoc, if_pos, if_neg, -Int.not_lt, -Int.not_le, -Nat.not_lt, -Nat.not_le, -List.length_flatMap, z0, r0, hz, ansK hS1, hlr]
      refine un_w ?_
      simp +contextual (disch := omega) [Nat.add_assoc, Int.add_assoc, if_pos, if_neg, -Int.not_lt, -Int.not_le, -Nat.not_lt, -Nat.not_le, -List.length_flatMap, under_situation_values.b1]
      exact FrR_nil (by rw [hW]; rfl) _ _
    · have hzz : zeros [V.i .i64 0] z.length = (List.replicate z.length (0 : Int)).flatMap cI := zeros_cI _
      have hln0 : ¬ z.length = 0 := fun h => hz0 (List.eq_nil_of_length_eq_zero h)
      rw [← valT_0 M z] at hzz
      simp +contextual (disch := omega) [Nat.add_assoc, Int.add_assoc, if_pos, if_neg, -Int.not_lt, -Int.not_le, -Nat.not_lt, -Nat.not_le, -List.length_flatMap, z0, r0, hz, ansK hS, hlr, hz0, hzz]
      clear hzz
      refine for_w (fun i e m x => e 7 = sV cI M ∧ e 11 = .ms (x1 + 22) 0 z.length 1 ∧ e 37 = sV cB z ∧ e 38 = .i .i64 z.length ∧ e 39 = .i .i64 i ∧ x1 + 23 ≤ x ∧ m (x1 + 22) = some (.cells ((valT M z i).flatMap cI) false)) z.length ?_ ?_ ?_
      · simp +contextual (disch := omega) [Nat.add_assoc, Int.add_assoc, if_pos, if_neg, -Int.not_lt, -Int.not_le, -Nat.not_lt, -Nat.not_le, -List.length_flatMap]
      · rintro i e m x hi ⟨g7, g11, g37, g38, g39, gx, gm⟩
        have hcl : ((valT M z i).flatMap cI).length = z.length := by rw [flatI_len, valT_len]
        cases hzi : z[i] with
        | true =>
          have := valT_t (m := M) hi hzi
          simp +contextual (disch := omega) [Nat.add_assoc, Int.add_assoc, if_pos, if_neg, -Int.not_lt, -Int.not_le, -Nat.not_lt, -Nat.not_le, -List.length_flatMap, under_situation_values.b1, g7, g11, g37, g38, g39, gm, hi, hzi, this]
          omega
        | false =>
          have hvf := valT_f (m := M) hi hzi
          have hfs := flatI_set (l := valT M z i) (j := i) (v := M.getD 0 0 - M.getD (i + 1) 0) (by rw [valT_len]; exact hi)
          rw [← hvf] at hfs
          have b0 := hmb 0
          have b1 := hmb (i + 1)
          have g0 : ∀ h, M[0]'h = M.getD 0 0 := fun h => by simp [h]
          have g1 : ∀ h, M[i + 1]'h = M.getD (i + 1) 0 := fun h => by simp [h]
          have hM0 : 0 < M.length := by omega
          have hMi : i + 1 < M.length := by omega
          generalize M.getD 0 0 = u at *
          generalize M.getD (i + 1) 0 = v at *
          generalize valT M z (i + 1) = T' at *
          generalize valT M z i = T at *
          simp +contextual (disch := omega) [Nat.add_assoc, Int.add_assoc, if_pos, if_neg, -Int.not_lt, -Int.not_le, -Nat.not_lt, -Nat.not_le, -List.length_flatMap, under_situation_values.b1, g7, g11, g37, g38, g39, gm, hi, hzi, hcl, hM0, hMi, g0, g1, hfs]
          omega
      · rintro e m x ⟨g7, g11, g37, g38, g39, gx, gm⟩
        rw [valT_e] at gm
        have htk := flatI_all (q := valsZ M z) (n := z.length) (by simp [valsZ])
        have hvl : (valsZ M z).length = z.length := by simp [valsZ]
        simp +contextual (disch := omega) [Nat.add_assoc, Int.add_assoc, if_pos, if_neg, -Int.not_lt, -Int.not_le, -Nat.not_lt, -Nat.not_le, -List.length_flatMap, under_situation_values.b1, g7, g11, g37, g38, g39]
        rw [← hvl]
        exact FrR_cons hW (fun h => hln0 (by rw [← hvl, h]; rfl)) _ gm
end Pi

