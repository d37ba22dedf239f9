/- Atoms, clauses: how they fill cells. -/
import Derived.Test.YtdeichdplcafcaaCode
import Derived.Test.YtdeichdplcafcaaEnc
import Derived.Test.YtdeichdplcafcaaFw4
set_option linter.unusedSimpArgs false
set_option linter.unusedVariables false
namespace Pi
/-- A number's digits of seven bits, the least first; all but the last one have 128 more. -/
def digs (n : Nat) : List Nat := if h : n < 128 then [n] else (n % 128 + 128) :: digs (n / 128)
termination_by n
decreasing_by omega
theorem digs_len {n : Nat} : ∀ k, n < 128 ^ (k + 1) → (digs n).length ≤ k + 1 := by
  intro k
  induction k generalizing n with
  | zero => intro h; unfold digs; simp at h; simp [h]
  | succ k ih =>
    intro h
    unfold digs
    split
    · simp
    · simp only [List.length_cons]
      have := ih (n := n / 128) (by rw [Nat.div_lt_iff_lt_mul (by omega)]; rw [← Nat.pow_succ]; exact h)
      omega
/-- What Put answers. -/
def putS (n : Int) : V := if n < 0 ∨ n > 1099511627776 then .tu [.s (bs []), .i .i64 1] else .tu [.s (bs (digs n.toNat)), .i .i64 0]

theorem digs_ge {n : Nat} (h : 128 ≤ n) : digs n = (n % 128 + 128) :: digs (n / 128) := by rw [digs, dif_neg (by omega)]
theorem digs_lt {n : Nat} (h : n < 128) : digs n = [n] := by rw [digs, dif_pos h]

theorem ref01_Put.a (n : Int) : Ans ctx ref01_Put.n [.i .i64 n] (putS n) := by
  refine ans ref01_Put.f ?_
  unfold putS
  simp +contextual (disch := omega) [Nat.add_assoc, Int.add_assoc, if_pos, if_neg, -Int.not_lt, -Int.not_le, -Nat.not_lt, -Nat.not_le, -List.length_flatMap, ref01_Put.c]
  intro h0 h1
  obtain ⟨k0, rfl⟩ : ∃ k : Nat, n = k := ⟨n.toNat, by omega⟩
  have hlen : (digs k0).length ≤ 6 := digs_len 5 (by omega)
  refine while_w (fun k e m x => ∃ o, e 0 = .i .i64 (k : Nat) ∧ e 4 = .s (bs o) ∧ e 3 = .i .i64 0 ∧ k ≤ 1099511627776 ∧ o ++ digs k = digs k0) k0 ?_ ?_
  · refine ⟨[], ?_⟩
    simp +contextual (disch := omega) [Nat.add_assoc, Int.add_assoc, if_pos, if_neg, -Int.not_lt, -Int.not_le, -Nat.not_lt, -Nat.not_le, -List.length_flatMap]
    omega
  · rintro k e m x ⟨o, g1, g2, g3, g4, g5⟩
    by_cases hk : 128 ≤ k
    · rw [digs_ge hk] at g5
      have hol := congrArg List.length g5
      simp at hol
      simp +contextual (disch := omega) [Nat.add_assoc, Int.add_assoc, if_pos, if_neg, -Int.not_lt, -Int.not_le, -Nat.not_lt, -Nat.not_le, -List.length_flatMap, ref01_Put.b1, g1, g2, g3, Int.tmod_eq_emod_of_nonneg, Int.tdiv_eq_ediv_of_nonneg]
      exact ⟨k / 128, by omega, by omega, _, rfl, by omega, by rw [← g5]; simp; omega⟩
    · rw [digs_lt (by omega)] at g5
      have hol := congrArg List.length g5
      simp at hol
      simp +contextual (disch := omega) [Nat.add_assoc, Int.add_assoc, if_pos, if_neg, -Int.not_lt, -Int.not_le, -Nat.not_lt, -Nat.not_le, -List.length_flatMap, ref01_Put.b1, g1, g2, g3]
      rw [g5]

theorem and127 {a : Int} (h : 0 ≤ a) (h' : a < 18446744073709551616) : bin .and (.i .u64 a) (.i .u64 127) = some (.i .u64 (a % 128)) := by
  obtain ⟨k, rfl⟩ : ∃ k : Nat, a = k := ⟨a.toNat, by omega⟩
  simp only [bin, binI, if_true]
  congr 2
  have h1 : (BitVec.ofInt 64 (k : Int) &&& BitVec.ofInt 64 127).toNat = k % 128 := by
    rw [BitVec.toNat_and]
    have e1 : (BitVec.ofInt 64 (k : Int)).toNat = k := by simp [BitVec.toNat_ofInt]; omega
    have e2 : (BitVec.ofInt 64 127).toNat = 127 := by decide
    rw [e1, e2]
    exact Nat.and_two_pow_sub_one_eq_mod k 7
  have e3 : Go.IntKind.u64.bits = 64 := rfl
  rw [e3, h1]
  exact u64w (by omega) (by omega)
theorem shr7 {a : Int} (q : Go.IntKind) : bin .shr (.i .u64 a) (.i q 7) = some (.i .u64 (a / 128)) := by
  simp only [bin]
  rw [if_neg (by omega)]
  rw [show (2 : Int) ^ min (Int.toNat 7) Go.IntKind.u64.bits = 128 from rfl, Int.fdiv_eq_ediv_of_nonneg _ (by omega)]
theorem or128 {a : Int} (h : 0 ≤ a) (h' : a < 128) : bin .or (.i .u8 a) (.i .u8 128) = some (.i .u8 (a + 128)) := by
  have : ∀ d : Fin 128, Go.IntKind.u8.wrap ((BitVec.ofInt 8 ((d.val : Nat) : Int) ||| BitVec.ofInt 8 128).toNat : Nat) = (d.val : Int) + 128 := by decide
  obtain ⟨d, rfl⟩ : ∃ k : Nat, a = k := ⟨a.toNat, by omega⟩
  show some (V.i .u8 (Go.IntKind.u8.wrap ((BitVec.ofInt 8 ((d : Nat) : Int) ||| BitVec.ofInt 8 128).toNat : Nat))) = _
  rw [this ⟨d, by omega⟩]
attribute [simp] and127 shr7 or128
theorem octet_Put.a (n : Int) : Ans ctx octet_Put.n [.i .i64 n] (putS n) := by
  refine ans octet_Put.f ?_
  unfold putS
  simp +contextual (disch := omega) [Nat.add_assoc, Int.add_assoc, if_pos, if_neg, -Int.not_lt, -Int.not_le, -Nat.not_lt, -Nat.not_le, -List.length_flatMap, octet_Put.c]
  intro h0 h1
  obtain ⟨k0, rfl⟩ : ∃ k : Nat, n = k := ⟨n.toNat, by omega⟩
  have hlen : (digs k0).length ≤ 6 := digs_len 5 (by omega)
  refine open_w octet_digits.f rfl (.inl rfl) ?_
  simp +contextual (disch := omega) [Nat.add_assoc, Int.add_assoc, if_pos, if_neg, -Int.not_lt, -Int.not_le, -Nat.not_lt, -Nat.not_le, -List.length_flatMap, octet_digits.c]
  refine gen_e (fun E => E 4 = .p 8 0 ∧ E 15 = .fn (.func octet_digits_1.n) [] [.p 11 0]) (by simp +contextual (disch := omega) [Nat.add_assoc, Int.add_assoc, if_pos, if_neg, -Int.not_lt, -Int.not_le, -Nat.not_lt, -Nat.not_le, -List.length_flatMap]) ?_
  rintro E ⟨E1, E2⟩
  refine rf_w ?_
  simp +contextual (disch := omega) [Nat.add_assoc, Int.add_assoc, if_pos, if_neg, -Int.not_lt, -Int.not_le, -Nat.not_lt, -Nat.not_le, -List.length_flatMap, E2]
  refine open_w octet_digits_1.f rfl (.inr (by simp +contextual (disch := omega) [Nat.add_assoc, Int.add_assoc, if_pos, if_neg, -Int.not_lt, -Int.not_le, -Nat.not_lt, -Nat.not_le, -List.length_flatMap])) ?_
  simp +contextual (disch := omega) [Nat.add_assoc, Int.add_assoc, if_pos, if_neg, -Int.not_lt, -Int.not_le, -Nat.not_lt, -Nat.not_le, -List.length_flatMap, octet_digits_1.c]
  refine while_w (fun k e m x => ∃ B o, e 0 = .fn (.yield 16) [] [] ∧ e 1 = .p 11 0 ∧ m 11 = some (.cells [.i .u64 (k : Nat)] false) ∧ m 15 = some .dfr ∧
    m 16 = some (.loop ⟨E, [16, 17], octet_Put.a1, octet_Put.b2, .ready, none⟩) ∧ m 8 = some (.cells [B] false) ∧ Bf m B cU 1 o 17 x ∧ 17 ≤ x ∧ k ≤ 1099511627776 ∧ o ++ digs k = digs k0) k0 ?_ ?_
  · refine ⟨.ns, [], ?_⟩
    simp +contextual (disch := omega) [Nat.add_assoc, Int.add_assoc, if_pos, if_neg, -Int.not_lt, -Int.not_le, -Nat.not_lt, -Nat.not_le, -List.length_flatMap, Bf.nil]
    omega
  · rintro k e m x ⟨B, o, g1, g2, g3, g4, g5, g6, g7, g8, gk, g9⟩
    by_cases hk : 128 ≤ k
    · rw [digs_ge hk] at g9
      have hol := congrArg List.length g9
      simp at hol
      simp +contextual (disch := omega) [Nat.add_assoc, Int.add_assoc, if_pos, if_neg, -Int.not_lt, -Int.not_le, -Nat.not_lt, -Nat.not_le, -List.length_flatMap, octet_digits_1.b1, g1, g2, g3, g4, g5]
      refine yield_w g5 rfl rfl ?_
      simp +contextual (disch := omega) [Nat.add_assoc, Int.add_assoc, if_pos, if_neg, -Int.not_lt, -Int.not_le, -Nat.not_lt, -Nat.not_le, -List.length_flatMap, octet_Put.a1, octet_Put.b2, g5, g6, E1]
      refine g7.ap [k % 128 + 128] (by simp +contextual (disch := omega) [Nat.add_assoc, Int.add_assoc, if_pos, if_neg, -Int.not_lt, -Int.not_le, -Nat.not_lt, -Nat.not_le, -List.length_flatMap]) (by omega) (by omega) (by simp [cU]) rfl (by simp; omega) ?_
      intro B' ws m2 q0 q1 q2 q3
      simp +contextual (disch := omega) [Nat.add_assoc, Int.add_assoc, if_pos, if_neg, -Int.not_lt, -Int.not_le, -Nat.not_lt, -Nat.not_le, -List.length_flatMap, q0, g1, g2, g3, g4, g5, g6, q2, E1, q1.stor, q1.cells]
      refine ⟨k / 128, by omega, by simp, o ++ [k % 128 + 128], q1.up (by omega) (fun j h1 h2 => ?_), by omega, by rw [← g9]; simp⟩
      simp +contextual (disch := omega) [Nat.add_assoc, Int.add_assoc, if_pos, if_neg, -Int.not_lt, -Int.not_le, -Nat.not_lt, -Nat.not_le, -List.length_flatMap]
    · rw [digs_lt (by omega)] at g9
      have hol := congrArg List.length g9
      simp at hol
      simp +contextual (disch := omega) [Nat.add_assoc, Int.add_assoc, if_pos, if_neg, -Int.not_lt, -Int.not_le, -Nat.not_lt, -Nat.not_le, -List.length_flatMap, octet_digits_1.b1, g1, g2, g3, g4, g5]
      refine yield_w g5 rfl rfl ?_
      simp +contextual (disch := omega) [Nat.add_assoc, Int.add_assoc, if_pos, if_neg, -Int.not_lt, -Int.not_le, -Nat.not_lt, -Nat.not_le, -List.length_flatMap, octet_Put.a1, octet_Put.b2, g5, g6, E1]
      refine g7.ap [k] (by simp +contextual (disch := omega) [Nat.add_assoc, Int.add_assoc, if_pos, if_neg, -Int.not_lt, -Int.not_le, -Nat.not_lt, -Nat.not_le, -List.length_flatMap]) (by omega) (by omega) (by simp [cU]) rfl (by simp; omega) ?_
      intro B' ws m2 q0 q1 q2 q3
      simp +contextual (disch := omega) [Nat.add_assoc, Int.add_assoc, if_pos, if_neg, -Int.not_lt, -Int.not_le, -Nat.not_lt, -Nat.not_le, -List.length_flatMap, q0, g1, g2, g3, g4, g5, g6, q2, E1, q1.stor, q1.cells]
      rw [q1.sl (by simp +contextual (disch := omega) [Nat.add_assoc, Int.add_assoc, if_pos, if_neg, -Int.not_lt, -Int.not_le, -Nat.not_lt, -Nat.not_le, -List.length_flatMap])]
      simp +contextual (disch := omega) [Nat.add_assoc, Int.add_assoc, if_pos, if_neg, -Int.not_lt, -Int.not_le, -Nat.not_lt, -Nat.not_le, -List.length_flatMap, g4, g9, q2]
end Pi


set_option linter.unusedSimpArgs false
set_option linter.unusedVariables false
namespace Pi
def t3 (r : Nat × Nat × Nat) : V := .tu [.i .i64 r.1, .i .i64 r.2.1, .i .i64 r.2.2]

end Pi


set_option linter.unusedSimpArgs false
set_option linter.unusedVariables false
namespace Pi
mutual
def nodesS (l : L) (most : Int) : Int := match l with
  | .mk _ _ ks => nodesL ks most 1
def nodesL (ks : List L) (most n : Int) : Int := match ks with
  | [] => n
  | k :: r => nodesL r most (if n < most then n + nodesS k (most - n) else n)
end
def nodesF (most n : Int) (k : L) : Int := if n < most then n + nodesS k (most - n) else n
theorem nodesL_eq (ks : List L) (most n : Int) : nodesL ks most n = ks.foldl (nodesF most) n := by
  induction ks generalizing n with
  | nil => simp [nodesL]
  | cons k r ih => simp [nodesL, ih, nodesF]
theorem nodesS_eq (l : L) (most : Int) : nodesS l most = l.kids.foldl (nodesF most) 1 := by
  cases l; simp [nodesS, nodesL_eq]
theorem nodesS_bd (l : L) : ∀ most, 1 ≤ nodesS l most ∧ (nodesS l most ≤ most ∨ nodesS l most = 1) := by
  induction l using L.ind with
  | h l ih =>
    intro most
    rw [nodesS_eq]
    refine fold_inv (P := fun n => 1 ≤ n ∧ (n ≤ most ∨ n = 1)) (fun n k hk hn => ?_) ⟨by omega, .inr rfl⟩
    have := ih k hk (most - n)
    unfold nodesF
    split <;> omega
theorem nodesF_stop {ks : List L} {most n : Int} (h : most ≤ n) : ks.foldl (nodesF most) n = n := by
  induction ks with
  | nil => rfl
  | cons k r ih => simp only [List.foldl_cons]; rw [show nodesF most n k = n by unfold nodesF; rw [if_neg (by omega)]]; exact ih
theorem nodesS_stop (l : L) {i : Nat} {most : Int} (h : most ≤ (l.kids.take i).foldl (nodesF most) 1) : (l.kids.take i).foldl (nodesF most) 1 = nodesS l most := by
  rw [nodesS_eq]
  conv => rhs; rw [← List.take_append_drop i l.kids]
  rw [List.foldl_append, nodesF_stop h]

theorem level_nodes.a (l : L) : l.Ok → ∀ most, -1000 < most → most < 1000 → Ans ctx level_nodes.n [.ag (cL l), .i .i64 most] (.i .i64 (nodesS l most)) := by
  induction l using L.ind with
  | h l ih =>
  intro ok most h1 h2
  have hlen := ok.len
  refine ans level_nodes.f ?_
  simp +contextual (disch := omega) [Nat.add_assoc, Int.add_assoc, if_pos, if_neg, -Int.not_lt, -Int.not_le, -Nat.not_lt, -Nat.not_le, -List.length_flatMap, level_nodes.c]
  refine for_w (fun i e m x => e 1 = .i .i64 most ∧ e 9 = sV cL l.kids ∧ e 10 = .i .i64 l.kids.length ∧ e 11 = .i .i64 i ∧ ∃ n, e 5 = .i .i64 n ∧ (l.kids.take i).foldl (nodesF most) 1 = n ∧ 1 ≤ n ∧ (n ≤ most ∨ n = 1)) l.kids.length ?_ ?_ ?_
  · simp
  · rintro i e m x hi ⟨g1, g2, g3, g4, n, g5, g6, g7, g8⟩
    have hk := ih l.kids[i] (List.getElem_mem hi) (ok.at hi)
    have hb := nodesS_bd l.kids[i] (most - n)
    simp +contextual (disch := omega) [Nat.add_assoc, Int.add_assoc, if_pos, if_neg, -Int.not_lt, -Int.not_le, -Nat.not_lt, -Nat.not_le, -List.length_flatMap, level_nodes.b1, hi, g1, g2, g3, g4, g5, g6, ansK (hk _ _ _), take_fold, nodesF, IfK]
    omega
  · rintro e m x ⟨g1, g2, g3, g4, n, g5, g6, g7, g8⟩
    simp +contextual (disch := omega) [Nat.add_assoc, Int.add_assoc, if_pos, if_neg, -Int.not_lt, -Int.not_le, -Nat.not_lt, -Nat.not_le, -List.length_flatMap, level_nodes.b1, g1, g2, g3, g4, g5]
    simpa [nodesS_eq] using g6.symm
theorem ref02_Nodes.a (l : L) : l.Ok → ∀ most, -1000 < most → most < 1000 → Ans ctx ref02_Nodes.n [.ag (cL l), .i .i64 most] (.i .i64 (nodesS l most)) := by
  induction l using L.ind with
  | h l ih =>
  intro ok most h1 h2
  have hlen := ok.len
  refine ans ref02_Nodes.f ?_
  simp +contextual (disch := omega) [Nat.add_assoc, Int.add_assoc, if_pos, if_neg, -Int.not_lt, -Int.not_le, -Nat.not_lt, -Nat.not_le, -List.length_flatMap, ref02_Nodes.c]
  refine for_w (fun i e m x => e 1 = .i .i64 most ∧ e 2 = .p 0 0 ∧ m 0 = some (.cells (cL l) false) ∧ e 6 = .i .i64 i ∧ ∃ n, e 5 = .i .i64 n ∧ (l.kids.take i).foldl (nodesF most) 1 = n ∧ 1 ≤ n ∧ (n ≤ most ∨ n = 1)) l.kids.length ?_ ?_ ?_
  · simp
  · rintro i e m x hi ⟨g1, g2, g3, g4, n, g5, g6, g7, g8⟩
    have hk := ih l.kids[i] (List.getElem_mem hi) (ok.at hi)
    have hb := nodesS_bd l.kids[i] (most - n)
    have hs := nodesS_stop l (i := i) (most := most)
    rw [g6] at hs
    simp +contextual (disch := omega) [Nat.add_assoc, Int.add_assoc, if_pos, if_neg, -Int.not_lt, -Int.not_le, -Nat.not_lt, -Nat.not_le, -List.length_flatMap, ref02_Nodes.b1, hi, g1, g2, g3, g4, g5, g6, ansK (hk _ _ _), take_fold, nodesF, hs, IfK]
    omega
  · rintro e m x ⟨g1, g2, g3, g4, n, g5, g6, g7, g8⟩
    simp +contextual (disch := omega) [Nat.add_assoc, Int.add_assoc, if_pos, if_neg, -Int.not_lt, -Int.not_le, -Nat.not_lt, -Nat.not_le, -List.length_flatMap, ref02_Nodes.b1, g1, g2, g3, g4, g5]
    simpa [nodesS_eq] using g6.symm
end Pi


set_option linter.unusedSimpArgs false
set_option linter.unusedVariables false
namespace Pi
structure A where
  var : Int
  off : Int
  deriving Inhabited, DecidableEq
def cA (a : A) : List V := [.i .i64 a.var, .i .i64 a.off]
@[simp] theorem cA_len (a : A) : (cA a).length = 2 := rfl
@[simp] theorem cA_fz (a : A) (D : Nat → Option (Bool × List V × List V × List Nat)) : frzL D (cA a) = some (cA a, []) := by simp [cA]
instance : Cel cA 2 := ⟨cA_len, by decide, cA_fz⟩
@[simp] theorem cA_0 (a : A) : (cA a)[0]? = some (.i .i64 a.var) := rfl
@[simp] theorem cA_1 (a : A) : (cA a)[1]? = some (.i .i64 a.off) := rfl
@[simp] theorem cA_take (a : A) : (cA a).take 2 = cA a := rfl
@[simp] theorem cA_drop (a : A) : (cA a).drop 2 = [] := rfl
structure C where
  frm : List A
  to : A
  deriving Inhabited, DecidableEq
def cC (c : C) : List V := [sV cA c.frm, .i .i64 c.to.var, .i .i64 c.to.off]
@[simp] theorem cC_len (c : C) : (cC c).length = 3 := rfl
@[simp] theorem cC_fz (c : C) (D : Nat → Option (Bool × List V × List V × List Nat)) : frzL D (cC c) = some (cC c, []) := by simp [cC]
instance : Cel cC 3 := ⟨cC_len, by decide, cC_fz⟩
@[simp] theorem cC_0 (c : C) : (cC c)[0]? = some (sV cA c.frm) := rfl
@[simp] theorem cC_1 (c : C) : (cC c)[1]? = some (.i .i64 c.to.var) := rfl
@[simp] theorem cC_2 (c : C) : (cC c)[2]? = some (.i .i64 c.to.off) := rfl
@[simp] theorem cC_take (c : C) : (cC c).take 3 = cC c := rfl
@[simp] theorem cC_drop (c : C) : (cC c).drop 3 = [] := rfl
@[simp] theorem cC_tail (c : C) : (cC c).tail = cA c.to := rfl
@[simp] theorem cA_drop0 (a : A) : (cA a).tail = [.i .i64 a.off] := rfl
end Pi


set_option linter.unusedSimpArgs false
set_option linter.unusedVariables false
namespace Pi
section
variable {α : Type} {f : α → List V} {k : Nat}
end
end Pi


set_option linter.unusedSimpArgs false
set_option linter.unusedVariables false
namespace Pi
def namedR (k : Int) : Int := if k = 5 then 5 else if k = 6 then 10 else 0
theorem lcode_named.a (k : Int) : Ans ctx lcode_named.n [.i .i64 k] (.i .i64 (namedR k)) := by
  refine ans lcode_named.f ?_
  unfold namedR
  by_cases h5 : k = 5
  · simp +contextual (disch := omega) [Nat.add_assoc, Int.add_assoc, if_pos, if_neg, -Int.not_lt, -Int.not_le, -Nat.not_lt, -Nat.not_le, -List.length_flatMap, lcode_named.c, h5]
  · by_cases h6 : k = 6
    · simp +contextual (disch := omega) [Nat.add_assoc, Int.add_assoc, if_pos, if_neg, -Int.not_lt, -Int.not_le, -Nat.not_lt, -Nat.not_le, -List.length_flatMap, lcode_named.c, h5, h6]
    · simp +contextual (disch := omega) [Nat.add_assoc, Int.add_assoc, if_pos, if_neg, -Int.not_lt, -Int.not_le, -Nat.not_lt, -Nat.not_le, -List.length_flatMap, lcode_named.c, h5, h6]
end Pi


set_option linter.unusedSimpArgs false
set_option linter.unusedVariables false
namespace Pi
/-- Where the first thing stands of which it holds; -1: nowhere. -/
def idxS {α : Type} (p : α → Bool) (l : List α) : Int := match l.findIdx? p with | some i => i | none => -1
theorem idx_ge {α : Type} (p : α → Bool) (l : List α) : decide (0 ≤ idxS p l) = l.any p := by
  unfold idxS
  cases h : l.findIdx? p with
  | none =>
    rw [List.findIdx?_eq_none_iff] at h
    simp
    intro x hx
    simpa using h x hx
  | some i =>
    rw [List.findIdx?_eq_some_iff_getElem] at h
    obtain ⟨h1, h2, _⟩ := h
    simp
    exact ⟨l[i], List.getElem_mem h1, h2⟩
theorem idx_take {α : Type} {p : α → Bool} {l : List α} {i : Nat} (hi : i < l.length) (h : (l.take i).all (fun a => !p a) = true) : (p l[i] = true → idxS p l = i) ∧ (p l[i] = false → (l.take (i + 1)).all (fun a => !p a) = true) := by
  refine ⟨fun hp => ?_, fun hp => ?_⟩
  · unfold idxS
    have : l.findIdx? p = some i := by
      rw [List.findIdx?_eq_some_iff_getElem]
      refine ⟨hi, hp, fun j hj => ?_⟩
      have := List.all_eq_true.1 h l[j] (by rw [List.mem_take_iff_getElem]; exact ⟨j, by omega, rfl⟩)
      simpa using this
    rw [this]
  · rw [List.take_succ_eq_append_getElem hi, List.all_append, h]
    simp [hp]
theorem idx_all {α : Type} {p : α → Bool} {l : List α} (h : l.all (fun a => !p a) = true) : idxS p l = -1 := by
  unfold idxS
  have : l.findIdx? p = none := by
    rw [List.findIdx?_eq_none_iff]
    intro x hx
    simpa using List.all_eq_true.1 h x hx
  rw [this]
end Pi


set_option linter.unusedSimpArgs false
set_option linter.unusedVariables false
namespace Pi
theorem slices_IndexFunc_Level.a (l : List L) (g : Nat) (caps : List V) (p : L → Bool) (hg : (ctx.opn g || ctx.frz g) = false) (hpr : ctx.prim g = none) (hc : ∀ D, frzL D caps = some (caps, [])) (h : ∀ k ∈ l, Ans ctx g ((.ag (cL k)) :: caps) (.b (p k))) (hl : l.length ≤ 9223372036854775807) :
    Ans ctx slices_IndexFunc_Level.n [sV cL l, .fn (.func g) [] caps] (.i .i64 (idxS p l)) := by
  refine ans slices_IndexFunc_Level.f ?_
  simp +contextual (disch := omega) [Nat.add_assoc, Int.add_assoc, if_pos, if_neg, -Int.not_lt, -Int.not_le, -Nat.not_lt, -Nat.not_le, -List.length_flatMap, slices_IndexFunc_Level.c]
  refine for_w (fun i e m x => e 0 = sV cL l ∧ e 1 = .fn (.func g) [] caps ∧ e 7 = .i .i64 l.length ∧ e 8 = .i .i64 i ∧ (l.take i).all (fun a => !p a) = true) l.length ?_ ?_ ?_
  · simp +contextual (disch := omega) [Nat.add_assoc, Int.add_assoc, if_pos, if_neg, -Int.not_lt, -Int.not_le, -Nat.not_lt, -Nat.not_le, -List.length_flatMap]
  · rintro i e m x hi ⟨g1, g2, g3, g4, g5⟩
    have hk := h l[i] (List.getElem_mem hi)
    obtain ⟨q1, q2⟩ := idx_take hi g5
    cases hp : p l[i] with
    | true =>
      rw [hp] at hk
      simp +contextual (disch := omega) [Nat.add_assoc, Int.add_assoc, if_pos, if_neg, -Int.not_lt, -Int.not_le, -Nat.not_lt, -Nat.not_le, -List.length_flatMap, slices_IndexFunc_Level.b1, g1, g2, g3, g4, hi, CallX_cl (C := ctx) (g := g) hpr (orF hg).1 (orF hg).2, hc, ansK hk, q1 hp]
    | false =>
      rw [hp] at hk
      simp +contextual (disch := omega) [Nat.add_assoc, Int.add_assoc, if_pos, if_neg, -Int.not_lt, -Int.not_le, -Nat.not_lt, -Nat.not_le, -List.length_flatMap, slices_IndexFunc_Level.b1, g1, g2, g3, g4, hi, CallX_cl (C := ctx) (g := g) hpr (orF hg).1 (orF hg).2, hc, ansK hk, q2 hp]
  · rintro e m x ⟨g1, g2, g3, g4, g5⟩
    rw [List.take_length] at g5
    simp +contextual (disch := omega) [Nat.add_assoc, Int.add_assoc, if_pos, if_neg, -Int.not_lt, -Int.not_le, -Nat.not_lt, -Nat.not_le, -List.length_flatMap, slices_IndexFunc_Level.b1, g1, g2, g3, g4, idx_all g5]
theorem slices_ContainsFunc_Level.a (l : List L) (g : Nat) (caps : List V) (p : L → Bool) (hg : (ctx.opn g || ctx.frz g) = false) (hpr : ctx.prim g = none) (hc : ∀ D, frzL D caps = some (caps, [])) (h : ∀ k ∈ l, Ans ctx g ((.ag (cL k)) :: caps) (.b (p k))) (hl : l.length ≤ 9223372036854775807) :
    Ans ctx slices_ContainsFunc_Level.n [sV cL l, .fn (.func g) [] caps] (.b (l.any p)) := by
  refine ans slices_ContainsFunc_Level.f ?_
  simp +contextual (disch := omega) [Nat.add_assoc, Int.add_assoc, if_pos, if_neg, -Int.not_lt, -Int.not_le, -Nat.not_lt, -Nat.not_le, -List.length_flatMap, slices_ContainsFunc_Level.c, hc, ansK (slices_IndexFunc_Level.a l g caps p hg hpr hc h hl), idx_ge]
end Pi


set_option linter.unusedSimpArgs false
set_option linter.unusedVariables false
namespace Pi
def kidsS (k : Int) : Int := if k = 1 ∨ k = 5 ∨ k = 6 then 0 else if k = 2 then 1 else if k = 3 ∨ k = 4 then 2 else -1
def namedS (l : L) (p q : Int) : Bool := if l.kind = 5 then decide (0 ≤ l.n) && decide (l.n < p) else if l.kind = 6 then decide (0 ≤ l.n) && decide (l.n < q) else decide (l.n = 0)
mutual
def rightS (l : L) (p q d : Int) : Bool := match l with
  | .mk k n ks => decide (0 < d) && decide ((ks.length : Int) = kidsS k) && namedS (.mk k n []) p q && !(oddL ks p q (d - 1))
def oddL (ks : List L) (p q d : Int) : Bool := match ks with
  | [] => false
  | k :: r => !(rightS k p q d) || oddL r p q d
end
theorem oddL_eq (ks : List L) (p q d : Int) : oddL ks p q d = ks.any fun k => !(rightS k p q d) := by
  induction ks with
  | nil => rfl
  | cons k r ih => simp [oddL, ih]
theorem rightS_eq (l : L) (p q d : Int) : rightS l p q d = (decide (0 < d) && decide ((l.kids.length : Int) = kidsS l.kind) && namedS l p q && !(l.kids.any fun k => !(rightS k p q (d - 1)))) := by
  cases l with
  | mk k n ks => simp only [rightS, oddL_eq]; rfl
def RightS (l : L) (p q : Int) : Bool := if p < 0 ∨ 5 < p ∨ q < 0 ∨ 10 < q then false else decide (nodesS l 101 ≤ 100) && rightS l p q 12

theorem level_named.a (l : L) (p q : Int) : Ans ctx level_named.n [.ag (cL l), .i .i64 p, .i .i64 q] (.b (namedS l p q)) := by
  refine ans level_named.f ?_
  simp +contextual (disch := omega) [Nat.add_assoc, Int.add_assoc, if_pos, if_neg, -Int.not_lt, -Int.not_le, -Nat.not_lt, -Nat.not_le, -List.length_flatMap, level_named.c, namedS]
theorem ref02_kids.a (k : Int) : Ans ctx ref02_kids.n [.i .i64 k] (.i .i64 (kidsS k)) := by
  refine ans ref02_kids.f ?_
  simp +contextual (disch := omega) [Nat.add_assoc, Int.add_assoc, if_pos, if_neg, -Int.not_lt, -Int.not_le, -Nat.not_lt, -Nat.not_le, -List.length_flatMap, ref02_kids.c, kidsS]
def kindsM : V := .rm [.i .i64 1, .i .i64 2, .i .i64 3, .i .i64 4, .i .i64 5, .i .i64 6]
  [.ag [.i .i64 0, .fn (.func level_kinds_1.n) [] []], .ag [.i .i64 1, .fn (.func level_kinds_2.n) [] []], .ag [.i .i64 2, .fn (.func level_kinds_3.n) [] []],
   .ag [.i .i64 2, .fn (.func level_kinds_4.n) [] []], .ag [.i .i64 0, .fn (.func level_kinds_5.n) [] []], .ag [.i .i64 0, .fn (.func level_kinds_6.n) [] []]]
set_option maxRecDepth 100000 in
theorem level_kinds.a : Ans ctx level_kinds.n [] kindsM := ans_told (n := 300) (by kernel_rfl)
def isK (k : Int) : Bool := decide (1 ≤ k) && decide (k ≤ 6)
def kidN (k : Int) : Int := if k = 2 then 1 else if k = 3 ∨ k = 4 then 2 else 0
def kindF (k : Int) : V := if k = 1 then .fn (.func level_kinds_1.n) [] [] else if k = 2 then .fn (.func level_kinds_2.n) [] [] else if k = 3 then .fn (.func level_kinds_3.n) [] []
  else if k = 4 then .fn (.func level_kinds_4.n) [] [] else if k = 5 then .fn (.func level_kinds_5.n) [] [] else if k = 6 then .fn (.func level_kinds_6.n) [] [] else .nf
theorem kind_of (k : Int) : k = 1 ∨ k = 2 ∨ k = 3 ∨ k = 4 ∨ k = 5 ∨ k = 6 ∨ (k ≠ 1 ∧ k ≠ 2 ∧ k ≠ 3 ∧ k ≠ 4 ∧ k ≠ 5 ∧ k ≠ 6) := by omega
theorem kinds_lk (m : Sto) (k : Int) : lkV m (.one .i) (.ag [.i .i64 0, .nf]) kindsM (.i .i64 k) true = some (.tu [.ag [.i .i64 (kidN k), kindF k], .b (isK k)], []) := by
  unfold kindsM
  rcases kind_of k with rfl | rfl | rfl | rfl | rfl | rfl | ⟨h1, h2, h3, h4, h5, h6⟩
  all_goals simp [kidN, kindF, isK]
  all_goals simp [*]
  omega
@[simp] theorem refOf_kinds : refOf kindsM = [] := (rfl)
theorem kids_of (k n : Int) (h : 0 ≤ n) : decide (n = kidsS k) = (isK k && decide (n = kidN k)) := by
  rcases kind_of k with rfl | rfl | rfl | rfl | rfl | rfl | ⟨h1, h2, h3, h4, h5, h6⟩
  all_goals simp [kidN, kidsS, isK]
  all_goals simp [*]
  rw [Bool.eq_iff_iff]
  simp
  omega

theorem level_right.a (l : L) : l.Ok → ∀ p q d : Int, (0 ≤ d ∧ d ≤ 100) → Ans ctx level_right.n [.ag (cL l), .i .i64 p, .i .i64 q, .i .i64 d] (.b (rightS l p q d)) := by
  induction l using L.ind with
  | h l ih =>
  intro ok p q d hd
  have hlen := ok.len
  refine ans level_right.f ?_
  rw [rightS_eq, kids_of _ _ (by omega)]
  by_cases h0 : 0 < d
  · have hodd : ∀ k ∈ l.kids, Ans ctx level_right_1.n (.ag (cL k) :: [.rp [.i .i64 p], .rp [.i .i64 q], .rp [.i .i64 d]]) (.b (!(rightS k p q (d - 1)))) := by
      intro k hk
      refine ans level_right_1.f ?_
      simp +contextual (disch := omega) [Nat.add_assoc, Int.add_assoc, if_pos, if_neg, -Int.not_lt, -Int.not_le, -Nat.not_lt, -Nat.not_le, -List.length_flatMap, level_right_1.c, ansK (ih k hk (ok.kid hk) p q (d - 1) (by omega))]
    have hc := slices_ContainsFunc_Level.a l.kids level_right_1.n [.rp [.i .i64 p], .rp [.i .i64 q], .rp [.i .i64 d]] (fun k => !(rightS k p q (d - 1))) rfl rfl (by intro D; simp) hodd hlen
    generalize (l.kids.any fun k => !(rightS k p q (d - 1))) = A at hc
    generalize hN : (l.kids.length : Int) = N
    simp +contextual (disch := omega) [Nat.add_assoc, Int.add_assoc, if_pos, if_neg, -Int.not_lt, -Int.not_le, -Nat.not_lt, -Nat.not_le, -List.length_flatMap, level_right.c, h0, ansK level_kinds.a, kinds_lk, ansK (level_named.a _ _ _), ansK hc, hN]
  · simp +contextual (disch := omega) [Nat.add_assoc, Int.add_assoc, if_pos, if_neg, -Int.not_lt, -Int.not_le, -Nat.not_lt, -Nat.not_le, -List.length_flatMap, level_right.c, h0, ansK level_kinds.a, kinds_lk]

theorem ref02_right.a (l : L) : l.Ok → ∀ p q d : Int, (0 ≤ d ∧ d ≤ 100) → Ans ctx ref02_right.n [.ag (cL l), .i .i64 p, .i .i64 q, .i .i64 d] (.b (rightS l p q d)) := by
  induction l using L.ind with
  | h l ih =>
  intro ok p q d hd
  have hlen := ok.len
  refine ans ref02_right.f ?_
  rw [rightS_eq]
  have hk0 : (l.kids.length : Int) = kidsS l.kind → (l.kind = 5 ∨ l.kind = 6) → l.kids = [] := by
    intro h1 h2
    rcases h2 with h2 | h2 <;> (rw [h2] at h1; simp [kidsS] at h1; exact h1)
  simp +contextual (disch := omega) [Nat.add_assoc, Int.add_assoc, if_pos, if_neg, -Int.not_lt, -Int.not_le, -Nat.not_lt, -Nat.not_le, -List.length_flatMap, ref02_right.c, ansK (ref02_kids.a _), namedS]
  refine ⟨fun h1 h2 => by omega, fun h1 h2 => ⟨fun h3 h4 => ?_, fun h3 => ⟨fun h4 h5 => ?_, fun h4 => ?_⟩⟩⟩
  · rw [hk0 h2 (.inl h3)]
    simp
    omega
  · rw [hk0 h2 (.inr h4)]
    simp
    omega
  · rw [← h2]
    have hd0 : decide (0 < d) = true := by simp; omega
    refine for_w (fun i e m x => e 1 = .i .i64 p ∧ e 2 = .i .i64 q ∧ e 3 = .i .i64 d ∧ e 4 = .p 0 0 ∧ m 0 = some (.cells (cL l) false) ∧ e 9 = .i .i64 i ∧ (l.kids.take i).any (fun k => !rightS k p q (d - 1)) = false) l.kids.length ?_ ?_ ?_
    · simp +contextual (disch := omega) [Nat.add_assoc, Int.add_assoc, if_pos, if_neg, -Int.not_lt, -Int.not_le, -Nat.not_lt, -Nat.not_le, -List.length_flatMap]
    · rintro i e m x hi ⟨g1, g2, g3, g4, g5, g6, g7⟩
      have hr := ih l.kids[i] (List.getElem_mem hi) (ok.at hi) p q (d - 1) (by omega)
      have ha : (l.kids.take (i + 1)).any (fun k => !rightS k p q (d - 1)) = !(rightS l.kids[i] p q (d - 1)) := by
        rw [List.take_succ_eq_append_getElem hi, List.any_append, g7]
        simp
      have hb : rightS l.kids[i] p q (d - 1) = false → l.kids.any (fun k => !rightS k p q (d - 1)) = true := fun h => by
        rw [List.any_eq_true]
        exact ⟨_, List.getElem_mem hi, by simp [h]⟩
      cases hc : rightS l.kids[i] p q (d - 1) with
      | true =>
        rw [hc] at hr ha
        simp +contextual (disch := omega) [Nat.add_assoc, Int.add_assoc, if_pos, if_neg, -Int.not_lt, -Int.not_le, -Nat.not_lt, -Nat.not_le, -List.length_flatMap, ref02_right.b1, g1, g2, g3, g4, g5, g6, hi, ansK hr, ha]
      | false =>
        rw [hc] at hr
        simp +contextual (disch := omega) [Nat.add_assoc, Int.add_assoc, if_pos, if_neg, -Int.not_lt, -Int.not_le, -Nat.not_lt, -Nat.not_le, -List.length_flatMap, ref02_right.b1, g1, g2, g3, g4, g5, g6, hi, ansK hr, hb hc]
    · rintro e m x ⟨g1, g2, g3, g4, g5, g6, g7⟩
      rw [List.take_length] at g7
      simp +contextual (disch := omega) [Nat.add_assoc, Int.add_assoc, if_pos, if_neg, -Int.not_lt, -Int.not_le, -Nat.not_lt, -Nat.not_le, -List.length_flatMap, ref02_right.b1, g1, g2, g3, g4, g5, g6, g7, hd0]
theorem level_Right.a (l : L) (ok : l.Ok) (p q : Int) : Ans ctx level_Right.n [.ag (cL l), .i .i64 p, .i .i64 q] (.b (RightS l p q)) := by
  refine ans level_Right.f ?_
  simp +contextual (disch := omega) [Nat.add_assoc, Int.add_assoc, if_pos, if_neg, -Int.not_lt, -Int.not_le, -Nat.not_lt, -Nat.not_le, -List.length_flatMap, level_Right.c, RightS, ansK (level_nodes.a l ok _ _ _), ansK (level_right.a l ok _ _ _ _)]
theorem ref02_Right.a (l : L) (ok : l.Ok) (p q : Int) : Ans ctx ref02_Right.n [.ag (cL l), .i .i64 p, .i .i64 q] (.b (RightS l p q)) := by
  refine ans ref02_Right.f ?_
  unfold RightS
  by_cases h : p < 0 ∨ 5 < p ∨ q < 0 ∨ 10 < q
  · rw [if_pos h]
    simp +contextual (disch := omega) [Nat.add_assoc, Int.add_assoc, if_pos, if_neg, -Int.not_lt, -Int.not_le, -Nat.not_lt, -Nat.not_le, -List.length_flatMap, ref02_Right.c]
  · rw [if_neg h]
    simp +contextual (disch := omega) [Nat.add_assoc, Int.add_assoc, if_pos, if_neg, -Int.not_lt, -Int.not_le, -Nat.not_lt, -Nat.not_le, -List.length_flatMap, ref02_Right.c, ansK (ref02_Nodes.a l ok _ _ _), ansK (ref02_right.a l ok _ _ _ _)]
end Pi


set_option linter.unusedSimpArgs false
set_option linter.unusedVariables false
namespace Pi
theorem kidsS_le (k : Int) : kidsS k ≤ 2 := by
  unfold kidsS
  split
  · omega
  · split
    · omega
    · split <;> omega
/-- What is right is so, kid by kid. -/
theorem right_kid {l : L} {p q d : Int} (h : rightS l p q d = true) : 0 < d ∧ (l.kids.length : Int) = kidsS l.kind ∧ namedS l p q = true ∧ ∀ k ∈ l.kids, rightS k p q (d - 1) = true := by
  rw [rightS_eq] at h
  simp only [Bool.and_eq_true, decide_eq_true_eq, Bool.not_eq_true', List.any_eq_false, Bool.not_eq_false] at h
  exact ⟨h.1.1.1, h.1.1.2, h.1.2, h.2⟩
theorem right_kind {l : L} {p q d : Int} (h : rightS l p q d = true) : l.kind = 1 ∨ l.kind = 2 ∨ l.kind = 3 ∨ l.kind = 4 ∨ l.kind = 5 ∨ l.kind = 6 := by
  have h2 := (right_kid h).2.1
  unfold kidsS at h2
  split at h2
  · omega
  · split at h2
    · omega
    · split at h2 <;> omega
end Pi


set_option linter.unusedSimpArgs false
set_option linter.unusedVariables false
namespace Pi
mutual
/-- A right level's bytes. -/
def textL : L → List Nat
  | .mk k n ks => digs k.toNat ++ (if k = 5 ∨ k = 6 then digs n.toNat else []) ++ textLs ks
def textLs : List L → List Nat
  | [] => []
  | k :: r => textL k ++ textLs r
end
theorem textLs_eq (ks : List L) : textLs ks = ks.flatMap textL := by
  induction ks with
  | nil => rfl
  | cons k r ih => simp [textLs, ih]
theorem textL_eq (l : L) : textL l = digs l.kind.toNat ++ (if l.kind = 5 ∨ l.kind = 6 then digs l.n.toNat else []) ++ l.kids.flatMap textL := by
  cases l with
  | mk k n ks => simp only [textL, textLs_eq]; rfl
theorem digs_ne (n : Nat) : digs n ≠ [] := by
  unfold digs
  split <;> simp
/-- A builder that holds a text. -/
def Bd (m : Sto) (q : Nat) (o : List Nat) (x : Nat) : Prop := ∃ ad B, m q = some (.tc 82 [ad, B]) ∧ (ad = .np ∨ ad = .p q 0) ∧ q < x ∧ ((o = [] ∧ B = .ns) ∨ ∃ b, b < x ∧ b ≠ q ∧ B = .ms b 0 o.length 1 ∧ m b = some (.tc 5 (ofBytes (bs o).data.toList)))
/-- What was no builder's is as it was. -/
def KeepC (m m' : Sto) (x : Nat) : Prop := ∀ j, j < x → ∀ cs r, m j = some (.cells cs r) → m' j = some (.cells cs r)
theorem KeepC.refl (m : Sto) (x : Nat) : KeepC m m x := fun _ _ _ _ h => h
theorem KeepC.trans {m m' m2 : Sto} {x y : Nat} (h : KeepC m m' x) (k : KeepC m' m2 y) (hx : x ≤ y) : KeepC m m2 x := fun j hj cs r e => k j (by omega) cs r (h j hj cs r e)
theorem Bd.up {m m' : Sto} {q x x' : Nat} {o : List Nat} (h : Bd m q o x) (hx : x ≤ x') (hm : ∀ j, j < x → m' j = m j) : Bd m' q o x' := by
  obtain ⟨ad, B, h1, h2, h3, h4⟩ := h
  refine ⟨ad, B, by rw [hm q h3, h1], h2, by omega, ?_⟩
  rcases h4 with h4 | ⟨b, b1, b2, b3, b4⟩
  · exact .inl h4
  · exact .inr ⟨b, by omega, b2, b3, by rw [hm b b1, b4]⟩
theorem ofBytes_app (a b : List UInt8) : ofBytes (a ++ b) = ofBytes a ++ ofBytes b := by simp [ofBytes]
theorem ofBytes_len (a : List UInt8) : (ofBytes a).length = a.length := by simp [ofBytes]
theorem bs_list (a b : List Nat) : (bs (a ++ b)).data.toList = (bs a).data.toList ++ (bs b).data.toList := by simp [bs]
theorem bs_llen (a : List Nat) : (bs a).data.toList.length = a.length := by simp [bs]
theorem strings_Builder_copyCheck.w {m : Sto} {x q : Nat} {K : CR → Sto → Nat → Prop} {ad B : V} (hm : m q = some (.tc 82 [ad, B])) (ha : ad = .np ∨ ad = .p q 0)
    (hK : ∀ m' x', x ≤ x' → m' q = some (.tc 82 [.p q 0, B]) → (∀ j, j ≠ q → m' j = m j) → K (.ret (.tu [])) m' x') :
    w ctx (envOf [.p q 0]) m x [] none none (RetG ctx strings_Builder_copyCheck.c.rs K) strings_Builder_copyCheck.c.code := by
  rcases ha with rfl | rfl
  · simp +contextual (disch := omega) [Nat.add_assoc, Int.add_assoc, if_pos, if_neg, -Int.not_lt, -Int.not_le, -Nat.not_lt, -Nat.not_le, -List.length_flatMap, strings_Builder_copyCheck.c, hm]
    exact hK _ _ (by omega) (Sto.seq _ _ _) (fun j hj => Sto.sne _ _ _ _ hj)
  · simp +contextual (disch := omega) [Nat.add_assoc, Int.add_assoc, if_pos, if_neg, -Int.not_lt, -Int.not_le, -Nat.not_lt, -Nat.not_le, -List.length_flatMap, strings_Builder_copyCheck.c, hm]
    exact hK _ _ (by omega) hm (fun j hj => rfl)
theorem strings_Builder_WriteString.w {m : Sto} {x q : Nat} {K : CR → Sto → Nat → Prop} {o : List Nat} (t : List Nat) (ht : t ≠ []) (hB : Bd m q o x) (hn : o.length + t.length ≤ 2147483648)
    (hK : ∀ m' x', x ≤ x' → Bd m' q (o ++ t) x' → KeepC m m' x → K (.ret (.tu [.i .i64 t.length, .ni])) m' x') :
    w ctx (envOf [.p q 0, .s (bs t)]) m x [] none none (RetG ctx strings_Builder_WriteString.c.rs K) strings_Builder_WriteString.c.code := by
  obtain ⟨ad, B, h1, h2, h3, h4⟩ := hB
  have hf : ctx.frz strings_Builder_copyCheck.n = false := rfl
  have htl : ¬ t.length = 0 := fun h => ht (List.length_eq_zero_iff.1 h)
  simp +contextual (disch := omega) [Nat.add_assoc, Int.add_assoc, if_pos, if_neg, -Int.not_lt, -Int.not_le, -Nat.not_lt, -Nat.not_le, -List.length_flatMap, strings_Builder_WriteString.c]
  rw [CallX_op (by rfl)]
  refine openg_w rfl rfl (.inl rfl) ?_
  rw [hf]
  refine strings_Builder_copyCheck.w h1 h2 ?_
  intro m1 x1 g1 g2 g3
  rcases h4 with ⟨rfl, rfl⟩ | ⟨b, b1, b2, rfl, b3⟩
  · simp +contextual (disch := omega) [Nat.add_assoc, Int.add_assoc, if_pos, if_neg, -Int.not_lt, -Int.not_le, -Nat.not_lt, -Nat.not_le, -List.length_flatMap, g2, htl]
    refine hK _ _ (by omega) ⟨_, _, Sto.seq _ _ _, .inr rfl, by omega, .inr ⟨x1 + 6, by omega, by omega, by simp, ?_⟩⟩ ?_
    · rw [Sto.sne _ _ _ _ (by omega), Sto.seq]; simp
    · intro j hj cs r e
      have hq : j ≠ q := fun h => by rw [h, h1] at e; cases e
      rw [Sto.sne _ _ _ _ hq, Sto.sne _ _ _ _ (by omega), g3 j hq, e]
  · have g4 := g3 b b2
    rw [b3] at g4
    simp +contextual (disch := omega) [Nat.add_assoc, Int.add_assoc, if_pos, if_neg, -Int.not_lt, -Int.not_le, -Nat.not_lt, -Nat.not_le, -List.length_flatMap, g2, g4, htl, ofBytes_len, bs_llen]
    refine hK _ _ (by omega) ⟨_, _, Sto.seq _ _ _, .inr rfl, by omega, .inr ⟨x1 + 6, by omega, by omega, by simp, ?_⟩⟩ ?_
    · rw [Sto.sne _ _ _ _ (by omega), Sto.seq, bs_list, ofBytes_app, List.take_of_length_le (by rw [ofBytes_len, bs_llen]; exact Nat.le_refl _)]
    · intro j hj cs r e
      have hq : j ≠ q := fun h => by rw [h, h1] at e; cases e
      have hb : j ≠ b := fun h => by rw [h, b3] at e; cases e
      rw [Sto.sne _ _ _ _ hq, Sto.sne _ _ _ _ (by omega), Sto.sne _ _ _ _ hb, g3 j hq, e]
theorem lcode_write_1.w {m : Sto} {x q c : Nat} {K : CR → Sto → Nat → Prop} {o : List Nat} {r : Bool} (n : Int) (h0 : 0 ≤ n) (h9 : n ≤ 1099511627776) (hc : m c = some (.cells [.p q 0] r)) (hB : Bd m q o x) (hn : o.length + (digs n.toNat).length ≤ 2147483648)
    (hK : ∀ m' x', x ≤ x' → Bd m' q (o ++ digs n.toNat) x' → KeepC m m' x → K (.ret (.tu [])) m' x') :
    w ctx (envOf [.i .i64 n, .p c 0]) m x [] none none (RetG ctx lcode_write_1.c.rs K) lcode_write_1.c.code := by
  have hp := octet_Put.a n
  unfold putS at hp
  rw [if_neg (by omega)] at hp
  have hf : ctx.frz strings_Builder_WriteString.n = false := rfl
  simp +contextual (disch := omega) [Nat.add_assoc, Int.add_assoc, if_pos, if_neg, -Int.not_lt, -Int.not_le, -Nat.not_lt, -Nat.not_le, -List.length_flatMap, lcode_write_1.c, ansK hp, hc]
  rw [CallX_op (by rfl)]
  refine openg_w rfl rfl (.inl rfl) ?_
  rw [hf]
  refine strings_Builder_WriteString.w (digs n.toNat) (digs_ne _) (hB.up (Nat.le_add_right _ _) (fun j hj => rfl)) hn ?_
  intro m' x' k1 k2 k3
  simp +contextual (disch := omega) [Nat.add_assoc, Int.add_assoc, if_pos, if_neg, -Int.not_lt, -Int.not_le, -Nat.not_lt, -Nat.not_le, -List.length_flatMap]
  exact hK _ _ (by omega) (k2.up (by omega) (fun j hj => rfl)) (fun j hj => k3 j (by omega))
theorem lcode_write_loop (l : L) {K : CR → Sto → Nat → Prop} {e : Env} {m : Sto} {x c q : Nat} (P : List Nat) (hlen : l.kids.length ≤ 9223372036854775807)
    (ih : ∀ k ∈ l.kids, ∀ (o : List Nat) {m : Sto} {x : Nat} {K : CR → Sto → Nat → Prop}, Bd m q o x → o.length + (textL k).length ≤ 2147483648 →
      (∀ m' x', x ≤ x' → Bd m' q (o ++ textL k) x' → KeepC m m' x → K (.ret (.tu [])) m' x') → w ctx (envOf [.p q 0, .ag (cL k)]) m x [] none none (RetG ctx lcode_write.c.rs K) lcode_write.c.code)
    (e2 : e 2 = .p c 0) (e21 : e 21 = sV cL l.kids) (e22 : e 22 = .i .i64 l.kids.length) (e23 : e 23 = .i .i64 0) (hc : m c = some (.cells [.p q 0] false)) (hcx : c < x) (hB : Bd m q P x)
    (hn : P.length + (l.kids.flatMap textL).length ≤ 2147483648)
    (hK : ∀ m' x', x ≤ x' → Bd m' q (P ++ l.kids.flatMap textL) x' → KeepC m m' x → K (.ret (.tu [])) m' x') :
    w ctx e m x [] none none (BlkK 0 (RetG ctx [] K)) (.loop lcode_write.b1) := by
  have hfw : ctx.frz lcode_write.n = false := rfl
  refine for_w (fun i e' m' x' => e' 2 = .p c 0 ∧ e' 21 = sV cL l.kids ∧ e' 22 = .i .i64 l.kids.length ∧ e' 23 = .i .i64 i ∧ x ≤ x' ∧ Bd m' q (P ++ (l.kids.take i).flatMap textL) x' ∧ KeepC m m' x) l.kids.length ?_ ?_ ?_
  · exact ⟨e2, e21, e22, e23, Nat.le_refl _, by simpa using hB, .refl _ _⟩
  · rintro i e' m' x' hi ⟨g1, g2, g3, g4, g5, g6, g7⟩
    have c0 := g7 c hcx _ _ hc
    have hT : (l.kids.take (i + 1)).flatMap textL = (l.kids.take i).flatMap textL ++ textL l.kids[i] := by
      rw [List.take_succ_eq_append_getElem hi, List.flatMap_append]; simp
    have hall : l.kids.flatMap textL = (l.kids.take (i + 1)).flatMap textL ++ (l.kids.drop (i + 1)).flatMap textL := by
      rw [← List.flatMap_append, List.take_append_drop]
    have hle := congrArg List.length hall
    rw [hT] at hle
    simp only [List.length_append] at hle
    simp +contextual (disch := omega) [Nat.add_assoc, Int.add_assoc, if_pos, if_neg, -Int.not_lt, -Int.not_le, -Nat.not_lt, -Nat.not_le, -List.length_flatMap, lcode_write.b1, g1, g2, g3, g4, hi, c0]
    rw [CallX_op (by rfl)]
    refine openg_w rfl rfl (.inl rfl) ?_
    rw [hfw]
    refine ih _ (List.getElem_mem hi) (P ++ (l.kids.take i).flatMap textL) (g6.up (by omega) (fun j hj => ?_)) (by rw [List.length_append]; omega) ?_
    · simp +contextual (disch := omega) [Nat.add_assoc, Int.add_assoc, if_pos, if_neg, -Int.not_lt, -Int.not_le, -Nat.not_lt, -Nat.not_le, -List.length_flatMap]
    intro m2 x2 k1 k2 k3
    simp +contextual (disch := omega) [Nat.add_assoc, Int.add_assoc, if_pos, if_neg, -Int.not_lt, -Int.not_le, -Nat.not_lt, -Nat.not_le, -List.length_flatMap, g1, g2, g3, g4]
    refine ⟨by omega, ?_, ?_⟩
    · rw [hT, ← List.append_assoc]
      exact k2.up (by omega) (fun j hj => rfl)
    · intro j hj cs r h
      refine k3 j (by omega) cs r ?_
      have := g7 j hj cs r h
      simp +contextual (disch := omega) [Nat.add_assoc, Int.add_assoc, if_pos, if_neg, -Int.not_lt, -Int.not_le, -Nat.not_lt, -Nat.not_le, -List.length_flatMap, this]
  · rintro e' m' x' ⟨g1, g2, g3, g4, g5, g6, g7⟩
    rw [List.take_length] at g6
    simp +contextual (disch := omega) [Nat.add_assoc, Int.add_assoc, if_pos, if_neg, -Int.not_lt, -Int.not_le, -Nat.not_lt, -Nat.not_le, -List.length_flatMap, lcode_write.b1, g1, g2, g3, g4]
    exact hK _ _ (by omega) (g6.up (by omega) (fun j hj => rfl)) g7
theorem lcode_write.w (l : L) : l.Ok → ∀ (d : Int) (h : rightS l 5 10 d = true) (o : List Nat) {m : Sto} {x q : Nat} {K : CR → Sto → Nat → Prop}, Bd m q o x → o.length + (textL l).length ≤ 2147483648 →
    (∀ m' x', x ≤ x' → Bd m' q (o ++ textL l) x' → KeepC m m' x → K (.ret (.tu [])) m' x') →
    w ctx (envOf [.p q 0, .ag (cL l)]) m x [] none none (RetG ctx lcode_write.c.rs K) lcode_write.c.code := by
  induction l using L.ind with
  | h l ih =>
  intro ok d h o m x q K hB hn hK
  have hf : ctx.frz lcode_write_1.n = false := rfl
  have hfw : ctx.frz lcode_write.n = false := rfl
  obtain ⟨r1, r2, r3, r4⟩ := right_kid h
  have hk := right_kind h
  rw [textL_eq] at hn hK
  simp only [List.length_append] at hn
  simp +contextual (disch := omega) [Nat.add_assoc, Int.add_assoc, if_pos, if_neg, -Int.not_lt, -Int.not_le, -Nat.not_lt, -Nat.not_le, -List.length_flatMap, lcode_write.c]
  rw [CallX_op (by rfl)]
  refine openg_w rfl rfl (.inl rfl) ?_
  rw [hf]
  obtain ⟨M, hM⟩ : ∃ M, M = (m.set x (some (.cells [.p q 0] false))).set (x + 1) (some (.cells (cL l) false)) := ⟨_, rfl⟩
  rw [← hM]
  have M0 : M x = some (.cells [.p q 0] false) := by rw [hM]; simp +contextual (disch := omega) [Nat.add_assoc, Int.add_assoc, if_pos, if_neg, -Int.not_lt, -Int.not_le, -Nat.not_lt, -Nat.not_le, -List.length_flatMap]
  have M1 : M (x + 1) = some (.cells (cL l) false) := by rw [hM]; simp +contextual (disch := omega) [Nat.add_assoc, Int.add_assoc, if_pos, if_neg, -Int.not_lt, -Int.not_le, -Nat.not_lt, -Nat.not_le, -List.length_flatMap]
  have MK : KeepC m M x := fun j hj cs r e => by rw [hM, Sto.sne _ _ _ _ (by omega), Sto.sne _ _ _ _ (by omega), e]
  refine lcode_write_1.w (o := o) l.kind (by omega) (by omega) M0 (hB.up (by omega) (fun j hj => by rw [hM, Sto.sne _ _ _ _ (by omega), Sto.sne _ _ _ _ (by omega)])) (by omega) ?_
  intro m1 x1 g1 g2 g3
  have c0 := g3 x (by omega) _ _ M0
  have c1 := g3 (x + 1) (by omega) _ _ M1
  have k1 : KeepC m m1 x := MK.trans (x := x) (y := x + 7) g3 (by omega)
  have hlen := ok.len
  by_cases h56 : l.kind = 5 ∨ l.kind = 6
  · rw [if_pos h56] at hn hK
    have hn1 : 0 ≤ l.n ∧ l.n ≤ 10 := by
      unfold namedS at r3
      rcases h56 with h | h <;> rw [h] at r3 <;> simp at r3 <;> omega
    have hna : namedR l.kind > 0 := by unfold namedR; rcases h56 with h | h <;> rw [h] <;> simp
    simp +contextual (disch := omega) [Nat.add_assoc, Int.add_assoc, if_pos, if_neg, -Int.not_lt, -Int.not_le, -Nat.not_lt, -Nat.not_le, -List.length_flatMap, c0, c1, ansK (lcode_named.a _), hna]
    rw [CallX_op (by rfl)]
    refine openg_w rfl rfl (.inl rfl) ?_
    rw [hf]
    refine lcode_write_1.w (o := o ++ digs l.kind.toNat) l.n (by omega) (by omega) c0 (g2.up (by omega) (fun j hj => rfl)) (by rw [List.length_append]; omega) ?_
    intro m2 x2 g4 g5 g6
    have d0 := g6 x (by omega) _ _ c0
    have d1 := g6 (x + 1) (by omega) _ _ c1
    have k2 : KeepC m m2 x := k1.trans g6 (by omega)
    simp +contextual (disch := omega) [Nat.add_assoc, Int.add_assoc, if_pos, if_neg, -Int.not_lt, -Int.not_le, -Nat.not_lt, -Nat.not_le, -List.length_flatMap, d0, d1]
    refine lcode_write_loop l (q := q) (c := x) (o ++ digs l.kind.toNat ++ digs l.n.toNat) (by omega) (fun k hk o {m x K} => ih k hk (ok.kid hk) (d - 1) (r4 k hk) o) (by simp +contextual (disch := omega) [Nat.add_assoc, Int.add_assoc, if_pos, if_neg, -Int.not_lt, -Int.not_le, -Nat.not_lt, -Nat.not_le, -List.length_flatMap]) (by simp +contextual (disch := omega) [Nat.add_assoc, Int.add_assoc, if_pos, if_neg, -Int.not_lt, -Int.not_le, -Nat.not_lt, -Nat.not_le, -List.length_flatMap]) (by simp +contextual (disch := omega) [Nat.add_assoc, Int.add_assoc, if_pos, if_neg, -Int.not_lt, -Int.not_le, -Nat.not_lt, -Nat.not_le, -List.length_flatMap]) (by simp +contextual (disch := omega) [Nat.add_assoc, Int.add_assoc, if_pos, if_neg, -Int.not_lt, -Int.not_le, -Nat.not_lt, -Nat.not_le, -List.length_flatMap]) d0 (by omega) (g5.up (by omega) (fun j hj => rfl)) (by simp only [List.length_append]; omega) ?_
    intro m' x' h1 h2 h3
    refine hK _ _ (by omega) ?_ (k2.trans h3 (by omega))
    simpa only [List.append_assoc] using h2
  · rw [if_neg h56] at hn hK
    have hna : ¬ namedR l.kind > 0 := by unfold namedR; rw [if_neg (by omega), if_neg (by omega)]; omega
    simp +contextual (disch := omega) [Nat.add_assoc, Int.add_assoc, if_pos, if_neg, -Int.not_lt, -Int.not_le, -Nat.not_lt, -Nat.not_le, -List.length_flatMap, c0, c1, ansK (lcode_named.a _), hna]
    simp only [List.length_nil] at hn
    refine lcode_write_loop l (q := q) (c := x) (o ++ digs l.kind.toNat) (by omega) (fun k hk o {m x K} => ih k hk (ok.kid hk) (d - 1) (r4 k hk) o) (by simp +contextual (disch := omega) [Nat.add_assoc, Int.add_assoc, if_pos, if_neg, -Int.not_lt, -Int.not_le, -Nat.not_lt, -Nat.not_le, -List.length_flatMap]) (by simp +contextual (disch := omega) [Nat.add_assoc, Int.add_assoc, if_pos, if_neg, -Int.not_lt, -Int.not_le, -Nat.not_lt, -Nat.not_le, -List.length_flatMap]) (by simp +contextual (disch := omega) [Nat.add_assoc, Int.add_assoc, if_pos, if_neg, -Int.not_lt, -Int.not_le, -Nat.not_lt, -Nat.not_le, -List.length_flatMap]) (by simp +contextual (disch := omega) [Nat.add_assoc, Int.add_assoc, if_pos, if_neg, -Int.not_lt, -Int.not_le, -Nat.not_lt, -Nat.not_le, -List.length_flatMap]) c0 (by omega) (g2.up (by omega) (fun j hj => rfl)) (by simp only [List.length_append]; omega) ?_
    intro m' x' h1 h2 h3
    refine hK _ _ (by omega) ?_ (k1.trans h3 (by omega))
    simpa only [List.append_assoc, List.append_nil] using h2
theorem strings_Builder_String.w {m : Sto} {x q : Nat} {K : CR → Sto → Nat → Prop} (o : List Nat) (ho : o ≠ []) (hB : Bd m q o x) (hn : o.length ≤ 2147483648)
    (hK : ∀ m' x', x ≤ x' → KeepC m m' x → K (.ret (.s (bs o))) m' x') :
    w ctx (envOf [.p q 0]) m x [] none none (RetG ctx strings_Builder_String.c.rs K) strings_Builder_String.c.code := by
  obtain ⟨ad, B, h1, h2, h3, ⟨h4, h5⟩ | ⟨b, b1, b2, rfl, b3⟩⟩ := hB
  · exact absurd h4 ho
  have hol : 0 < o.length := List.length_pos_iff.2 ho
  have hlb : (ofBytes (bs o).data.toList).length = o.length := by rw [ofBytes_len, bs_llen]
  have hx : bytesX (List.take o.length (ofBytes (bs o).data.toList)) = some (bs o).data.toList := by rw [List.take_of_length_le (by omega), bytesX_of]
  have hy : ({ data := (bs o).data.toList.toArray } : ByteArray) = bs o := by simp
  simp +contextual (disch := omega) [Nat.add_assoc, Int.add_assoc, if_pos, if_neg, -Int.not_lt, -Int.not_le, -Nat.not_lt, -Nat.not_le, -List.length_flatMap, strings_Builder_String.c, h1, b3, hlb, hx, hy]
  refine hK _ _ (by omega) ?_
  intro j hj cs r e
  have hb : j ≠ b := fun h => by rw [h, b3] at e; cases e
  rw [Sto.sne _ _ _ _ hb, e]
theorem lcode_Put.a (l : L) (ok : l.Ok) (hlen : RightS l 5 10 = true → (textL l).length ≤ 2147483648) : Ans ctx lcode_Put.n [.ag (cL l)] (if RightS l 5 10 = true then .tu [.s (bs (textL l)), .i .i64 0] else .tu [.s (bs []), .i .i64 1]) := by
  refine ans lcode_Put.f ?_
  have hf : ctx.frz lcode_write.n = false := rfl
  have hs : ctx.frz strings_Builder_String.n = false := rfl
  by_cases hR : RightS l 5 10 = true
  · rw [if_pos hR]
    simp +contextual (disch := omega) [Nat.add_assoc, Int.add_assoc, if_pos, if_neg, -Int.not_lt, -Int.not_le, -Nat.not_lt, -Nat.not_le, -List.length_flatMap, lcode_Put.c, ansK (level_Right.a l ok 5 10), hR]
    rw [CallX_op (by rfl)]
    refine openg_w rfl rfl (.inl rfl) ?_
    rw [hf]
    have hr : ∃ d, rightS l 5 10 d = true := by
      refine ⟨12, ?_⟩
      unfold RightS at hR
      split at hR
      · cases hR
      · simpa using (Bool.and_eq_true _ _ ▸ hR).2
    obtain ⟨d, hd⟩ := hr
    refine lcode_write.w l ok d hd [] (q := 5) ⟨.np, .ns, ?_, .inl rfl, by omega, .inl ⟨rfl, rfl⟩⟩ (by simpa using hlen hR) ?_
    · simp +contextual (disch := omega) [Nat.add_assoc, Int.add_assoc, if_pos, if_neg, -Int.not_lt, -Int.not_le, -Nat.not_lt, -Nat.not_le, -List.length_flatMap]
    intro m' x' g1 g2 g3
    simp +contextual (disch := omega) [Nat.add_assoc, Int.add_assoc, if_pos, if_neg, -Int.not_lt, -Int.not_le, -Nat.not_lt, -Nat.not_le, -List.length_flatMap]
    rw [CallX_op (by rfl)]
    refine openg_w rfl rfl (.inl rfl) ?_
    rw [hs]
    refine strings_Builder_String.w (textL l) (by rw [textL_eq]; simp [digs_ne]) (g2.up (by omega) (fun j hj => rfl)) (hlen hR) ?_
    intro m2 x2 k1 k2
    simp +contextual (disch := omega) [Nat.add_assoc, Int.add_assoc, if_pos, if_neg, -Int.not_lt, -Int.not_le, -Nat.not_lt, -Nat.not_le, -List.length_flatMap]
  · rw [if_neg hR]
    simp +contextual (disch := omega) [Nat.add_assoc, Int.add_assoc, if_pos, if_neg, -Int.not_lt, -Int.not_le, -Nat.not_lt, -Nat.not_le, -List.length_flatMap, lcode_Put.c, ansK (level_Right.a l ok 5 10), hR]
theorem right_small (l : L) : ∀ {d : Int}, rightS l 5 10 d = true → l.kind.toNat < 7 ∧ (l.kind = 5 ∨ l.kind = 6 → l.n.toNat < 10) := by
  intro d h
  have hk := right_kind h
  have r3 := (right_kid h).2.2.1
  refine ⟨by omega, fun h56 => ?_⟩
  unfold namedS at r3
  rcases h56 with h | h <;> rw [h] at r3 <;> simp at r3 <;> omega
theorem digs_one {n : Nat} (h : n < 128) : digs n = [n] := digs_lt h
/-- No more bytes than there can be. -/
theorem textL_len (l : L) : ∀ {d : Nat}, rightS l 5 10 d = true → (textL l).length + 2 ≤ 2 ^ (d + 1) := by
  induction l using L.ind with
  | h l ih =>
    intro d h
    obtain ⟨r1, r2, r3, r4⟩ := right_kid h
    obtain ⟨s1, s2⟩ := right_small l h
    have hk := right_kind h
    obtain ⟨d, rfl⟩ : ∃ k, d = k + 1 := ⟨d - 1, by omega⟩
    have hp : 1 ≤ 2 ^ d := Nat.one_le_two_pow
    have hp1 : 2 ^ (d + 1) = 2 * 2 ^ d := by rw [Nat.pow_succ]; omega
    have hp2 : 2 ^ (d + 1 + 1) = 4 * 2 ^ d := by rw [Nat.pow_succ, hp1]; omega
    have hkid : ∀ k ∈ l.kids, (textL k).length + 2 ≤ 2 ^ (d + 1) := fun k hk => ih k hk (d := d) (by have := r4 k hk; rwa [show ((d + 1 : Nat) : Int) - 1 = (d : Nat) by omega] at this)
    rw [textL_eq, digs_one (by omega)]
    rw [hp2]
    rw [hp1] at hkid
    generalize 2 ^ d = P at *
    generalize l.kind = k at *
    generalize l.n = n at *
    generalize l.kids = ks at *
    match ks, r2, hkid with
    | [], r2, hkid =>
      by_cases h56 : k = 5 ∨ k = 6
      · rw [if_pos h56, digs_one (by have := s2 h56; omega)]; simp; omega
      · rw [if_neg h56]; simp; omega
    | [a], r2, hkid =>
      have ha := hkid a (by simp)
      have : ¬ (k = 5 ∨ k = 6) := fun h => by rcases h with h | h <;> rw [h] at r2 <;> simp [kidsS] at r2
      rw [if_neg this]; simp; omega
    | [a, b], r2, hkid =>
      have ha := hkid a (by simp)
      have hb := hkid b (by simp)
      have : ¬ (k = 5 ∨ k = 6) := fun h => by rcases h with h | h <;> rw [h] at r2 <;> simp [kidsS] at r2
      rw [if_neg this]; simp; omega
    | _ :: _ :: _ :: _, r2, _ =>
      have := kidsS_le k
      simp at r2
      omega
theorem RightS_right {l : L} (h : RightS l 5 10 = true) : rightS l 5 10 12 = true := by
  unfold RightS at h
  split at h
  · cases h
  · simpa using (Bool.and_eq_true _ _ ▸ h).2
theorem RightS_len {l : L} (h : RightS l 5 10 = true) : (textL l).length ≤ 8190 := by
  have := textL_len l (d := 12) (RightS_right h)
  omega
theorem ref03_text.a (l : L) : l.Ok → ∀ {d : Nat}, d ≤ 12 → rightS l 5 10 d = true → Ans ctx ref03_text.n [.ag (cL l)] (.s (bs (textL l))) := by
  induction l using L.ind with
  | h l ih =>
    intro ok d hd h
    obtain ⟨r1, r2, r3, r4⟩ := right_kid h
    obtain ⟨s1, s2⟩ := right_small l h
    have hk := right_kind h
    have hlen := ok.len
    have hpow : 2 ^ (d + 1) ≤ 2 ^ 13 := Nat.pow_le_pow_right (by omega) (by omega)
    have hT := textL_len l h
    have hp1 := ref01_Put.a l.kind
    have hp2 := ref01_Put.a l.n
    unfold putS at hp1
    rw [if_neg (by omega)] at hp1
    refine ans ref03_text.f ?_
    rw [textL_eq] at hT ⊢
    by_cases h56 : l.kind = 5 ∨ l.kind = 6
    · unfold putS at hp2
      have hn0 : 0 ≤ l.n := by
        unfold namedS at r3
        rcases h56 with h | h <;> rw [h] at r3 <;> simp at r3 <;> omega
      have := s2 h56
      rw [if_neg (by omega)] at hp2
      rw [if_pos h56] at hT ⊢
      have hks : l.kids = [] := by
        rcases h56 with h | h <;> rw [h] at r2 <;> simp [kidsS] at r2 <;> exact r2
      have hT1 : (digs l.kind.toNat).length + (digs l.n.toNat).length ≤ 8190 := by simp only [List.length_append] at hT; omega
      rw [hks] at hT ⊢
      rcases h56 with h | h
      all_goals
        rw [h] at hp1 hT1 ⊢
        have hT2 : (digs 5).length = 1 ∧ (digs 6).length = 1 := ⟨by rw [digs_one (by omega)]; rfl, by rw [digs_one (by omega)]; rfl⟩
        have hT3 : (digs l.n.toNat).length ≤ 8190 := by omega
        simp +contextual (disch := omega) [Nat.add_assoc, Int.add_assoc, if_pos, if_neg, -Int.not_lt, -Int.not_le, -Nat.not_lt, -Nat.not_le, -List.length_flatMap, ref03_text.c, ansK hp1, ansK hp2, h, hks, hT2.1, hT2.2]
        refine un_w ?_
        simp +contextual (disch := omega) [Nat.add_assoc, Int.add_assoc, if_pos, if_neg, -Int.not_lt, -Int.not_le, -Nat.not_lt, -Nat.not_le, -List.length_flatMap, ref03_text.b1, hks]
    · rw [if_neg h56] at hT ⊢
      have h5 : ¬ l.kind = 5 := fun h => h56 (.inl h)
      have h6 : ¬ l.kind = 6 := fun h => h56 (.inr h)
      have hT1 : (digs l.kind.toNat).length + (l.kids.flatMap textL).length ≤ 8190 := by simp only [List.length_append] at hT; omega
      simp +contextual (disch := omega) [Nat.add_assoc, Int.add_assoc, if_pos, if_neg, -Int.not_lt, -Int.not_le, -Nat.not_lt, -Nat.not_le, -List.length_flatMap, ref03_text.c, ansK hp1, h5, h6]
      refine for_w (fun i e m x => e 1 = .p 0 0 ∧ m 0 = some (.cells (cL l) false) ∧ e 7 = .i .i64 i ∧ e 3 = .s (bs (digs l.kind.toNat ++ (l.kids.take i).flatMap textL))) l.kids.length ?_ ?_ ?_
      · simp +contextual (disch := omega) [Nat.add_assoc, Int.add_assoc, if_pos, if_neg, -Int.not_lt, -Int.not_le, -Nat.not_lt, -Nat.not_le, -List.length_flatMap]
      · rintro i e m x hi ⟨g1, g2, g3, g4⟩
        have hT9 : (l.kids.take (i + 1)).flatMap textL = (l.kids.take i).flatMap textL ++ textL l.kids[i] := by
          rw [List.take_succ_eq_append_getElem hi, List.flatMap_append]; simp
        have hall : l.kids.flatMap textL = (l.kids.take (i + 1)).flatMap textL ++ (l.kids.drop (i + 1)).flatMap textL := by
          rw [← List.flatMap_append, List.take_append_drop]
        have hle := congrArg List.length hall
        rw [hT9] at hle
        simp only [List.length_append] at hle
        have hr4 := r4 _ (List.getElem_mem hi)
        obtain ⟨d, rfl⟩ : ∃ k, d = k + 1 := ⟨d - 1, by omega⟩
        rw [show ((d + 1 : Nat) : Int) - 1 = (d : Nat) by omega] at hr4
        simp +contextual (disch := omega) [Nat.add_assoc, Int.add_assoc, if_pos, if_neg, -Int.not_lt, -Int.not_le, -Nat.not_lt, -Nat.not_le, -List.length_flatMap, ref03_text.b1, g1, g2, g3, g4, hi, ansK (ih _ (List.getElem_mem hi) (ok.at hi) (by omega) hr4)]
        rw [hT9]
      · rintro e m x ⟨g1, g2, g3, g4⟩
        rw [List.take_length] at g4
        simp +contextual (disch := omega) [Nat.add_assoc, Int.add_assoc, if_pos, if_neg, -Int.not_lt, -Int.not_le, -Nat.not_lt, -Nat.not_le, -List.length_flatMap, ref03_text.b1, g1, g2, g3, g4]
theorem ref03_Put.a (l : L) (ok : l.Ok) : Ans ctx ref03_Put.n [.ag (cL l)] (if RightS l 5 10 = true then .tu [.s (bs (textL l)), .i .i64 0] else .tu [.s (bs []), .i .i64 1]) := by
  refine ans ref03_Put.f ?_
  by_cases hR : RightS l 5 10 = true
  · rw [if_pos hR]
    simp +contextual (disch := omega) [Nat.add_assoc, Int.add_assoc, if_pos, if_neg, -Int.not_lt, -Int.not_le, -Nat.not_lt, -Nat.not_le, -List.length_flatMap, ref03_Put.c, ansK (ref02_Right.a l ok 5 10), hR, ansK (ref03_text.a l ok (d := 12) (by omega) (RightS_right hR))]
  · rw [if_neg hR]
    simp +contextual (disch := omega) [Nat.add_assoc, Int.add_assoc, if_pos, if_neg, -Int.not_lt, -Int.not_le, -Nat.not_lt, -Nat.not_le, -List.length_flatMap, ref03_Put.c, ansK (ref02_Right.a l ok 5 10), hR]
end Pi


set_option linter.unusedSimpArgs false
set_option linter.unusedVariables false
namespace Pi
end Pi


set_option linter.unusedSimpArgs false
set_option linter.unusedVariables false
namespace Pi
end Pi


set_option linter.unusedSimpArgs false
set_option linter.unusedVariables false
namespace Pi
/-! What Get tells of what Put writes, and back. -/
end Pi


set_option linter.unusedSimpArgs false
set_option linter.unusedVariables false
namespace Pi
end Pi


set_option linter.unusedSimpArgs false
set_option linter.unusedVariables false
namespace Pi
end Pi


set_option linter.unusedSimpArgs false
set_option linter.unusedVariables false
namespace Pi
end Pi

