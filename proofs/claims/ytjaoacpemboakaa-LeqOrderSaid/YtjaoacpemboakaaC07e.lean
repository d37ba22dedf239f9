/- Contracts: levels by cases (layer 7): the document's Leq, Equal. -/
import Derived.Test.YtjaoacpemboakaaC07d
set_option linter.unusedSimpArgs false
set_option linter.unusedVariables false
namespace Pi
theorem ref07_Leq.a (a b : L) (oka : a.Ok) (okb : b.Ok) (p : Int) : Ans ctx ref07_Leq.n [.ag (cL a), .ag (cL b), .i .i64 p] (leqV a b p) := by
  refine ans ref07_Leq.f ?_
  have hA := ref07_Cases.a a oka p
  have hB := ref07_Cases.a b okb p
  unfold casesV at hA hB
  unfold leqV
  cases h1 : RightS a p 0 with
  | false =>
    rw [h1] at hA
    cases h2 : RightS b p 0 with
    | false =>
      rw [h2] at hB
      simp +contextual (disch := omega) [Nat.add_assoc, Int.add_assoc, if_pos, if_neg, -Int.not_lt, -Int.not_le, -Nat.not_lt, -Nat.not_le, -List.length_flatMap, ref07_Leq.c, ansK hA, ansK hB]
    | true =>
      rw [h2] at hB
      simp +contextual (disch := omega) [Nat.add_assoc, Int.add_assoc, if_pos, if_neg, -Int.not_lt, -Int.not_le, -Nat.not_lt, -Nat.not_le, -List.length_flatMap, ref07_Leq.c, ansK hA, ansK hB]
  | true =>
    rw [h1, if_pos rfl] at hA
    cases h2 : RightS b p 0 with
    | false =>
      rw [h2] at hB
      simp +contextual (disch := omega) [Nat.add_assoc, Int.add_assoc, if_pos, if_neg, -Int.not_lt, -Int.not_le, -Nat.not_lt, -Nat.not_le, -List.length_flatMap, ref07_Leq.c, ansK hA, ansK hB]
    | true =>
      rw [h2, if_pos rfl] at hB
      have hp := RightS_p h1
      obtain ⟨n, rfl⟩ : ∃ n : Nat, p = n := ⟨p.toNat, by omega⟩
      have hn5 : n ≤ 5 := by omega
      have h32 := pow32 hn5
      have hl1 := casesF_len a n
      have hl2 := casesF_len b n
      obtain ⟨N, hN⟩ : ∃ N, N = 2 ^ n := ⟨_, rfl⟩
      rw [← hN] at hl1 hl2 h32
      obtain ⟨R, hR⟩ : ∃ R, R = leqR a b n := ⟨_, rfl⟩
      have hnn : ((n : Int)).toNat = n := by omega
      rw [hnn] at hA hB ⊢
      rw [← hR]
      simp +contextual (disch := omega) [Nat.add_assoc, Int.add_assoc, if_pos, if_neg, -Int.not_lt, -Int.not_le, -Nat.not_lt, -Nat.not_le, -List.length_flatMap, ref07_Leq.c, ansK hA, ansK hB]
      refine for_w (fun k e m x => e 2 = .i .i64 n ∧ e 9 = sV cF (casesF a n) ∧ e 11 = sV cF (casesF b n) ∧ e 13 = .i .i64 k ∧ badAt (casesF a n) (casesF b n) 0 = badAt ((casesF a n).drop k) ((casesF b n).drop k) k) N ?_ ?_ ?_
      · simp +contextual (disch := omega) [Nat.add_assoc, Int.add_assoc, if_pos, if_neg, -Int.not_lt, -Int.not_le, -Nat.not_lt, -Nat.not_le, -List.length_flatMap]
      · rintro k e m x hk ⟨q2, q9, q11, q13, qb⟩
        have hk2 : k < 2 ^ n := by omega
        have hC := ref07_Case.a k n (by omega) hn5
        have fa := flatten_len (l := a) (Z := caseP k n) (by rw [caseP_len]; exact h1)
        have fb := flatten_len (l := b) (Z := caseP k n) (by rw [caseP_len]; exact h2)
        have hag := ref07_against.a _ _ _ fa.2 fb.2 fa.1 fb.1
        have hLe := ref06_Leq.a (flattenF a (caseP k n)) (flattenF b (caseP k n)) (by rw [fa.1, caseP_len]; omega) (by rw [fb.1, caseP_len]; omega)
        have hla : leqAt a b n k = againstS (flattenF a (caseP k n)) (flattenF b (caseP k n)) (caseP k n) := rfl
        rw [← hla] at hag
        rw [badAt_step hk2] at qb
        have e1 : (casesF a n)[k]? = some (flattenF a (caseP k n)) := by rw [List.getElem?_eq_getElem (by omega), casesF_at hk2]
        have e2 : (casesF b n)[k]? = some (flattenF b (caseP k n)) := by rw [List.getElem?_eq_getElem (by omega), casesF_at hk2]
        have e1' : (casesF a n)[k]'(by omega) = flattenF a (caseP k n) := casesF_at hk2 _
        have e2' : (casesF b n)[k]'(by omega) = flattenF b (caseP k n) := casesF_at hk2 _
        clear hla
        generalize flattenF a (caseP k n) = f at *
        generalize flattenF b (caseP k n) = g at *
        generalize caseP k n = Z at *
        cases hlq : leqF f g with
        | true =>
          rw [hlq] at hLe
          rw [hlq, if_pos rfl] at qb
          simp +contextual (disch := omega) [Nat.add_assoc, Int.add_assoc, if_pos, if_neg, -Int.not_lt, -Int.not_le, -Nat.not_lt, -Nat.not_le, -List.length_flatMap, ref07_Leq.b1, q2, q9, q11, q13, hl1, hl2, hk, e1, e2, e1', e2', ansK hLe]
          exact qb
        | false =>
          rw [hlq] at hLe
          rw [hlq, if_neg (by simp)] at qb
          have hR2 : R = .tu [.b false, sV cI (leqAt a b n k), .i .i64 0] := by rw [hR]; unfold leqR; rw [qb]
          simp +contextual (disch := omega) [Nat.add_assoc, Int.add_assoc, if_pos, if_neg, -Int.not_lt, -Int.not_le, -Nat.not_lt, -Nat.not_le, -List.length_flatMap, ref07_Leq.b1, q2, q9, q11, q13, hl1, hl2, hk, e1, e2, e1', e2', ansK hLe, ansK hC, ansK hag, hR2]
      · rintro e m x ⟨q2, q9, q11, q13, qb⟩
        have hNo : badAt (casesF a n) (casesF b n) 0 = none := by rw [qb]; exact badAt_end (by omega)
        have hR2 : R = .tu [.b true, sV cI [], .i .i64 0] := by rw [hR]; unfold leqR; rw [hNo]
        simp +contextual (disch := omega) [Nat.add_assoc, Int.add_assoc, if_pos, if_neg, -Int.not_lt, -Int.not_le, -Nat.not_lt, -Nat.not_le, -List.length_flatMap, ref07_Leq.b1, q2, q9, q11, q13, hl1, hl2, hR2]
theorem slices_Equal_int.a (a b : List Int) (ha : a.length ≤ 1000000) : Ans ctx slices_Equal_int.n [sV cI a, sV cI b] (.b (decide (a = b))) := by
  refine ans slices_Equal_int.f ?_
  by_cases hl : a.length = b.length
  · simp +contextual (disch := omega) [Nat.add_assoc, Int.add_assoc, if_pos, if_neg, -Int.not_lt, -Int.not_le, -Nat.not_lt, -Nat.not_le, -List.length_flatMap, slices_Equal_int.c, hl]
    refine for_w (fun i e m x => e 0 = sV cI a ∧ e 1 = sV cI b ∧ e 12 = .i .i64 b.length ∧ e 13 = .i .i64 i ∧ a.take i = b.take i) a.length ?_ ?_ ?_
    · simp +contextual (disch := omega) [Nat.add_assoc, Int.add_assoc, if_pos, if_neg, -Int.not_lt, -Int.not_le, -Nat.not_lt, -Nat.not_le, -List.length_flatMap, hl]
    · rintro i e m x hi ⟨g1, g2, g12, g3, g4⟩
      have hi' : i < b.length := by omega
      by_cases he : a[i] = b[i]
      · have : a.take (i + 1) = b.take (i + 1) := by rw [List.take_succ_eq_append_getElem hi, List.take_succ_eq_append_getElem hi', g4, he]
        simp +contextual (disch := omega) [Nat.add_assoc, Int.add_assoc, if_pos, if_neg, -Int.not_lt, -Int.not_le, -Nat.not_lt, -Nat.not_le, -List.length_flatMap, slices_Equal_int.b1, g1, g2, g12, g3, hi, hi', he, this]
      · have : a ≠ b := fun h => he (by subst h; rfl)
        simp +contextual (disch := omega) [Nat.add_assoc, Int.add_assoc, if_pos, if_neg, -Int.not_lt, -Int.not_le, -Nat.not_lt, -Nat.not_le, -List.length_flatMap, slices_Equal_int.b1, g1, g2, g12, g3, hi, hi', he, this]
    · rintro e m x ⟨g1, g2, g12, g3, g4⟩
      rw [List.take_length, hl, List.take_length] at g4
      simp +contextual (disch := omega) [Nat.add_assoc, Int.add_assoc, if_pos, if_neg, -Int.not_lt, -Int.not_le, -Nat.not_lt, -Nat.not_le, -List.length_flatMap, slices_Equal_int.b1, g1, g2, g12, g3, g4, hl]
  · have : a ≠ b := fun h => hl (by rw [h])
    simp +contextual (disch := omega) [Nat.add_assoc, Int.add_assoc, if_pos, if_neg, -Int.not_lt, -Int.not_le, -Nat.not_lt, -Nat.not_le, -List.length_flatMap, slices_Equal_int.c, this, hl]
theorem leq_Equal_1.a (f g : F) (hf : f.offs.length ≤ 1000000) : Ans ctx leq_Equal_1.n [.ag (cF f), .ag (cF g)] (.b (decide (f = g))) := by
  refine ans leq_Equal_1.f ?_
  have hE := slices_Equal_int.a f.offs g.offs hf
  have he : (f = g) ↔ f.cst = g.cst ∧ f.offs = g.offs := by
    obtain ⟨a, b⟩ := f
    obtain ⟨c, d⟩ := g
    simp
  by_cases h1 : f.cst = g.cst
  · by_cases h2 : f.offs = g.offs
    · rw [decide_eq_true h2] at hE
      have : f = g := he.2 ⟨h1, h2⟩
      simp +contextual (disch := omega) [Nat.add_assoc, Int.add_assoc, if_pos, if_neg, -Int.not_lt, -Int.not_le, -Nat.not_lt, -Nat.not_le, -List.length_flatMap, leq_Equal_1.c, h1, ansK hE, decide_eq_true this]
    · rw [decide_eq_false h2] at hE
      have : ¬ f = g := fun h => h2 (he.1 h).2
      simp +contextual (disch := omega) [Nat.add_assoc, Int.add_assoc, if_pos, if_neg, -Int.not_lt, -Int.not_le, -Nat.not_lt, -Nat.not_le, -List.length_flatMap, leq_Equal_1.c, h1, ansK hE, decide_eq_false this]
  · have : ¬ f = g := fun h => h1 (he.1 h).1
    simp +contextual (disch := omega) [Nat.add_assoc, Int.add_assoc, if_pos, if_neg, -Int.not_lt, -Int.not_le, -Nat.not_lt, -Nat.not_le, -List.length_flatMap, leq_Equal_1.c, h1, ansK hE, decide_eq_false this]
theorem slices_EqualFunc_Flat.a (a b : List F) (ha : a.length ≤ 1000000) (hs : ∀ f ∈ a, f.offs.length ≤ 1000000) : Ans ctx slices_EqualFunc_Flat.n [sV cF a, sV cF b, .fn (.func leq_Equal_1.n) [] []] (.b (decide (a = b))) := by
  refine ans slices_EqualFunc_Flat.f ?_
  by_cases hl : a.length = b.length
  · simp +contextual (disch := omega) [Nat.add_assoc, Int.add_assoc, if_pos, if_neg, -Int.not_lt, -Int.not_le, -Nat.not_lt, -Nat.not_le, -List.length_flatMap, slices_EqualFunc_Flat.c, hl]
    refine for_w (fun i e m x => e 1 = sV cF b ∧ e 2 = .fn (.func leq_Equal_1.n) [] [] ∧ e 15 = sV cF a ∧ e 16 = .i .i64 b.length ∧ e 17 = .i .i64 i ∧ a.take i = b.take i) a.length ?_ ?_ ?_
    · simp +contextual (disch := omega) [Nat.add_assoc, Int.add_assoc, if_pos, if_neg, -Int.not_lt, -Int.not_le, -Nat.not_lt, -Nat.not_le, -List.length_flatMap, hl]
    · rintro i e m x hi ⟨g1, g2, g15, g16, g17, g4⟩
      have hi' : i < b.length := by omega
      have hE := leq_Equal_1.a a[i] b[i] (hs _ (List.getElem_mem hi))
      by_cases he : a[i] = b[i]
      · have : a.take (i + 1) = b.take (i + 1) := by rw [List.take_succ_eq_append_getElem hi, List.take_succ_eq_append_getElem hi', g4, he]
        rw [decide_eq_true he] at hE
        simp +contextual (disch := omega) [Nat.add_assoc, Int.add_assoc, if_pos, if_neg, -Int.not_lt, -Int.not_le, -Nat.not_lt, -Nat.not_le, -List.length_flatMap, slices_EqualFunc_Flat.b1, g1, g2, g15, g16, g17, hi, hi', ansK hE, this]
      · have : a ≠ b := fun h => he (by subst h; rfl)
        rw [decide_eq_false he] at hE
        simp +contextual (disch := omega) [Nat.add_assoc, Int.add_assoc, if_pos, if_neg, -Int.not_lt, -Int.not_le, -Nat.not_lt, -Nat.not_le, -List.length_flatMap, slices_EqualFunc_Flat.b1, g1, g2, g15, g16, g17, hi, hi', ansK hE, this]
    · rintro e m x ⟨g1, g2, g15, g16, g17, g4⟩
      rw [List.take_length, hl, List.take_length] at g4
      simp +contextual (disch := omega) [Nat.add_assoc, Int.add_assoc, if_pos, if_neg, -Int.not_lt, -Int.not_le, -Nat.not_lt, -Nat.not_le, -List.length_flatMap, slices_EqualFunc_Flat.b1, g1, g2, g15, g16, g17, g4, hl]
  · have : a ≠ b := fun h => hl (by rw [h])
    simp +contextual (disch := omega) [Nat.add_assoc, Int.add_assoc, if_pos, if_neg, -Int.not_lt, -Int.not_le, -Nat.not_lt, -Nat.not_le, -List.length_flatMap, slices_EqualFunc_Flat.c, this, hl]
def equalV (a b : L) (p : Int) : V := if RightS a p 0 = true ∧ RightS b p 0 = true then .tu [.b (decide (casesF a p.toNat = casesF b p.toNat)), .i .i64 0] else .tu [.b false, .i .i64 1]
theorem leq_Equal.a (a b : L) (oka : a.Ok) (okb : b.Ok) (p : Int) : Ans ctx leq_Equal.n [.ag (cL a), .ag (cL b), .i .i64 p] (equalV a b p) := by
  refine ans leq_Equal.f ?_
  have hA := leq_Cases.a a oka p
  have hB := leq_Cases.a b okb p
  unfold casesV at hA hB
  unfold equalV
  cases h1 : RightS a p 0 with
  | false =>
    rw [h1] at hA
    cases h2 : RightS b p 0 with
    | false =>
      rw [h2] at hB
      simp +contextual (disch := omega) [Nat.add_assoc, Int.add_assoc, if_pos, if_neg, -Int.not_lt, -Int.not_le, -Nat.not_lt, -Nat.not_le, -List.length_flatMap, leq_Equal.c, ansK hA, ansK hB]
    | true =>
      rw [h2] at hB
      simp +contextual (disch := omega) [Nat.add_assoc, Int.add_assoc, if_pos, if_neg, -Int.not_lt, -Int.not_le, -Nat.not_lt, -Nat.not_le, -List.length_flatMap, leq_Equal.c, ansK hA, ansK hB]
  | true =>
    rw [h1, if_pos rfl] at hA
    cases h2 : RightS b p 0 with
    | false =>
      rw [h2] at hB
      simp +contextual (disch := omega) [Nat.add_assoc, Int.add_assoc, if_pos, if_neg, -Int.not_lt, -Int.not_le, -Nat.not_lt, -Nat.not_le, -List.length_flatMap, leq_Equal.c, ansK hA, ansK hB]
    | true =>
      rw [h2, if_pos rfl] at hB
      have hp := RightS_p h1
      obtain ⟨n, rfl⟩ : ∃ n : Nat, p = n := ⟨p.toNat, by omega⟩
      have h32 := pow32 (n := n) (by omega)
      have hl1 := casesF_len a n
      have hnn : ((n : Int)).toNat = n := by omega
      rw [hnn] at hA hB ⊢
      have hE := slices_EqualFunc_Flat.a (casesF a n) (casesF b n) (by omega) (fun f hf => by
        obtain ⟨k, hk, rfl⟩ := List.getElem_of_mem hf
        rw [casesF_at (by omega)]
        rw [(flatten_len (l := a) (Z := caseP k n) (by rw [caseP_len]; exact h1)).1, caseP_len]
        omega)
      simp +contextual (disch := omega) [Nat.add_assoc, Int.add_assoc, if_pos, if_neg, -Int.not_lt, -Int.not_le, -Nat.not_lt, -Nat.not_le, -List.length_flatMap, leq_Equal.c, ansK hA, ansK hB, ansK hE]
def leqB (a b : L) (n : Nat) : Bool := (badAt (casesF a n) (casesF b n) 0).isNone
theorem leqR_eq (a b : L) (n : Nat) : ∃ v, leqR a b n = .tu [.b (leqB a b n), sV cI v, .i .i64 0] ∧ v.length ≤ n ∧ (leqB a b n = true → v = []) := by
  unfold leqR leqB
  cases h : badAt (casesF a n) (casesF b n) 0 with
  | none => exact ⟨[], rfl, by simp, fun _ => rfl⟩
  | some k => exact ⟨_, rfl, by unfold leqAt; rw [againstS_len, caseP_len]; exact Nat.le_refl _, fun h => by simp at h⟩
theorem bad_none : ∀ {x y : List F} {i : Nat}, x.length = y.length → (badAt x y i = none ↔ ∀ (j : Nat) (h1 : j < x.length) (h2 : j < y.length), leqF x[j] y[j] = true)
  | [], [], i, _ => by simp [badAt]
  | [], _ :: _, _, h => by simp at h
  | _ :: _, [], _, h => by simp at h
  | a :: x, b :: y, i, h => by
    have ih := bad_none (x := x) (y := y) (i := i + 1) (by simpa using h)
    rw [badAt]
    constructor
    · intro h3 j h1 h2
      split at h3
      · cases j with
        | zero => assumption
        | succ j => exact ih.1 h3 j (by simpa using h1) (by simpa using h2)
      · cases h3
    · intro h3
      have h0 : leqF a b = true := h3 0 (by simp) (by simp)
      rw [if_pos h0]
      exact ih.2 fun j h1 h2 => h3 (j + 1) (by simpa using h1) (by simpa using h2)
theorem leqB_iff {a b : L} {n : Nat} : leqB a b n = true ↔ ∀ k, k < 2 ^ n → leqF (flattenF a (caseP k n)) (flattenF b (caseP k n)) = true := by
  have h1 := casesF_len a n
  have h2 := casesF_len b n
  unfold leqB
  rw [Option.isNone_iff_eq_none, bad_none (by omega)]
  constructor
  · intro h k hk
    have := h k (by omega) (by omega)
    rwa [casesF_at hk, casesF_at hk] at this
  · intro h k q1 q2
    rw [casesF_at (by omega), casesF_at (by omega)]
    exact h k (by omega)
theorem casesF_eq {a b : L} {n : Nat} : casesF a n = casesF b n ↔ ∀ k, k < 2 ^ n → flattenF a (caseP k n) = flattenF b (caseP k n) := by
  have h1 := casesF_len a n
  have h2 := casesF_len b n
  constructor
  · intro h k hk
    rw [← casesF_at hk (by omega), ← casesF_at (l := b) hk (by omega)]
    simp only [h]
  · intro h
    refine List.ext_getElem (by omega) fun k q1 q2 => ?_
    rw [casesF_at (by omega), casesF_at (by omega)]
    exact h k (by omega)
theorem leq_anti {a b : L} {n : Nat} (h1 : RightS a n 0 = true) (h2 : RightS b n 0 = true) : (leqB a b n && leqB b a n) = decide (casesF a n = casesF b n) := by
  rw [Bool.eq_iff_iff, Bool.and_eq_true, decide_eq_true_eq, leqB_iff, leqB_iff, casesF_eq]
  have key : ∀ k, (leqF (flattenF a (caseP k n)) (flattenF b (caseP k n)) && leqF (flattenF b (caseP k n)) (flattenF a (caseP k n))) = decide (flattenF a (caseP k n) = flattenF b (caseP k n)) := fun k => by
    have fa := flatten_len (l := a) (Z := caseP k n) (by rw [caseP_len]; exact h1)
    have fb := flatten_len (l := b) (Z := caseP k n) (by rw [caseP_len]; exact h2)
    exact leqF_anti fa.2 fb.2 (by rw [fa.1, fb.1])
  constructor
  · rintro ⟨q1, q2⟩ k hk
    have := key k
    rw [q1 k hk, q2 k hk] at this
    simpa using this.symm
  · intro h
    constructor <;> intro k hk <;> have := key k
    · rw [decide_eq_true (h k hk), Bool.and_eq_true] at this
      exact this.1
    · rw [decide_eq_true (h k hk), Bool.and_eq_true] at this
      exact this.2
theorem ref07_Equal.a (a b : L) (oka : a.Ok) (okb : b.Ok) (p : Int) : Ans ctx ref07_Equal.n [.ag (cL a), .ag (cL b), .i .i64 p] (equalV a b p) := by
  refine ans ref07_Equal.f ?_
  have hA := ref07_Leq.a a b oka okb p
  have hB := ref07_Leq.a b a okb oka p
  unfold leqV at hA hB
  unfold equalV
  by_cases h : RightS a p 0 = true ∧ RightS b p 0 = true
  · rw [if_pos h] at hA ⊢
    rw [if_pos h.symm] at hB
    have hp := RightS_p h.1
    obtain ⟨n, rfl⟩ : ∃ n : Nat, p = n := ⟨p.toNat, by omega⟩
    have hnn : ((n : Int)).toNat = n := by omega
    rw [hnn] at hA hB ⊢
    rw [← leq_anti h.1 h.2]
    obtain ⟨v, hv, _⟩ := leqR_eq a b n
    obtain ⟨v', hv', _⟩ := leqR_eq b a n
    rw [hv] at hA
    rw [hv'] at hB
    cases h3 : leqB a b n <;> cases h4 : leqB b a n <;> rw [h3] at hA <;> rw [h4] at hB
    all_goals simp +contextual (disch := omega) [Nat.add_assoc, Int.add_assoc, if_pos, if_neg, -Int.not_lt, -Int.not_le, -Nat.not_lt, -Nat.not_le, -List.length_flatMap, ref07_Equal.c, ansK hA, ansK hB]
  · rw [if_neg h] at hA ⊢
    rw [if_neg (fun h' => h h'.symm)] at hB
    simp +contextual (disch := omega) [Nat.add_assoc, Int.add_assoc, if_pos, if_neg, -Int.not_lt, -Int.not_le, -Nat.not_lt, -Nat.not_le, -List.length_flatMap, ref07_Equal.c, ansK hA, ansK hB]
end Pi
