/- Contracts: levels by cases (layer 7): the law of order. -/
import Derived.Test.YtjaoacpemboakaaC07f
set_option linter.unusedSimpArgs false
set_option linter.unusedVariables false
namespace Pi
theorem made3R (l : List Nat) : RightS (madeS l 3 0) (3 : Nat) (0 : Nat) = true := RightS_of (by omega) (by omega) (by have := madeS_sz l 3 0; omega) (rightS_up _ _ _ _ _ (by omega) (madeS_right l 3 0))
theorem leqF_trans {f g h : F} (hf : rightF f = true) (hg : rightF g = true) (hh : rightF h = true) (l1 : f.offs.length = g.offs.length) (l2 : g.offs.length = h.offs.length) (h1 : leqF f g = true) (h2 : leqF g h = true) : leqF f h = true := by
  rw [leqF_iff hf hg l1] at h1
  rw [leqF_iff hg hh l2] at h2
  rw [leqF_iff hf hh (l1.trans l2)]
  refine ⟨fun i => Int.le_trans (h1.1 i) (h2.1 i), ?_⟩
  have ht : topF g ≤ topF h := by
    refine fmax_le _ _ _ (fmax_ge _ _) fun a ha => ?_
    obtain ⟨i, hi, rfl⟩ := List.getElem_of_mem ha
    have q := h2.1 i
    have q2 := top_ge (f := h) i
    simp [hi] at q
    simp at q2
    omega
  have := h1.2; have := h2.2
  omega
theorem leqB_trans {a b c : L} {n : Nat} (ha : RightS a n 0 = true) (hb : RightS b n 0 = true) (hc : RightS c n 0 = true) (h1 : leqB a b n = true) (h2 : leqB b c n = true) : leqB a c n = true := by
  rw [leqB_iff] at *
  intro k hk
  have fa := flatten_len (l := a) (Z := caseP k n) (by rw [caseP_len]; exact ha)
  have fb := flatten_len (l := b) (Z := caseP k n) (by rw [caseP_len]; exact hb)
  have fc := flatten_len (l := c) (Z := caseP k n) (by rw [caseP_len]; exact hc)
  exact leqF_trans fa.2 fb.2 fc.2 (by rw [fa.1, fb.1]) (by rw [fb.1, fc.1]) (h1 k hk) (h2 k hk)
def alikeF : List F → List F → Nat → Bool
  | _, _, 0 => true
  | x, y, k + 1 => alikeF x y k && decide (x[k]? = y[k]?)
theorem alike_all {x y : List F} (hl : x.length = y.length) : ∀ k, k ≤ x.length → alikeF x y k = decide (x.take k = y.take k)
  | 0, _ => by simp [alikeF]
  | k + 1, hk => by
    rw [alikeF, alike_all hl k (by omega), Bool.eq_iff_iff]
    simp only [Bool.and_eq_true, decide_eq_true_eq]
    rw [List.take_succ_eq_append_getElem (by omega), List.take_succ_eq_append_getElem (by omega), List.getElem?_eq_getElem (by omega), List.getElem?_eq_getElem (by omega)]
    constructor
    · rintro ⟨h1, h2⟩
      injection h2 with h2
      rw [h1, h2]
    · intro h
      have := List.append_inj h (by simp; omega)
      exact ⟨this.1, by rw [List.singleton_inj.1 this.2]⟩
set_option maxRecDepth 20000 in
set_option maxHeartbeats 4000000 in
theorem law07_LeqOrder.a (l k j : List Nat) (hl : Byt l) (hk : Byt k) (hj : Byt j) (ll : l.length ≤ 9223372036854775807) (lk : k.length ≤ 9223372036854775807) (lj : j.length ≤ 9223372036854775807) : Ans ctx law07_LeqOrder.n [sV cU l, sV cU k, sV cU j] (.b true) := by
  refine ans law07_LeqOrder.f ?_
  have qA : Ans ctx law02_Made.n [sV cU l, .i .i64 3, .i .i64 0] (.ag (cL (madeS l 3 0))) := law02_Made.a l hl 3 0 (by omega) (by omega)
  have qB : Ans ctx law02_Made.n [sV cU k, .i .i64 3, .i .i64 0] (.ag (cL (madeS k 3 0))) := law02_Made.a k hk 3 0 (by omega) (by omega)
  have qC : Ans ctx law02_Made.n [sV cU j, .i .i64 3, .i .i64 0] (.ag (cL (madeS j 3 0))) := law02_Made.a j hj 3 0 (by omega) (by omega)
  have oA := madeS_ok l 3 0 (by omega) (by omega)
  have oB := madeS_ok k 3 0 (by omega) (by omega)
  have oC := madeS_ok j 3 0 (by omega) (by omega)
  have rA : RightS (madeS l 3 0) 3 0 = true := made3R l
  have rB : RightS (madeS k 3 0) 3 0 = true := made3R k
  have rC : RightS (madeS j 3 0) 3 0 = true := made3R j
  generalize madeS l 3 0 = A at *
  generalize madeS k 3 0 = B at *
  generalize madeS j 3 0 = C at *
  have h1 := leq_Leq.a A B oA oB 3
  have h2 := leq_Leq.a B C oB oC 3
  have h3 := leq_Leq.a A C oA oC 3
  have h4 := leq_Leq.a B A oB oA 3
  have h5 := leq_Equal.a A B oA oB 3
  have h6 := leq_Cases.a A oA 3
  have h7 := leq_Cases.a B oB 3
  have e3 : (3 : Int).toNat = 3 := rfl
  unfold leqV at h1 h2 h3 h4
  unfold equalV at h5
  unfold casesV at h6 h7
  rw [if_pos ⟨rA, rB⟩, e3] at h1 h5
  rw [if_pos ⟨rB, rC⟩, e3] at h2
  rw [if_pos ⟨rA, rC⟩, e3] at h3
  rw [if_pos ⟨rB, rA⟩, e3] at h4
  rw [if_pos rA, e3] at h6
  rw [if_pos rB, e3] at h7
  obtain ⟨v1, g1, _⟩ := leqR_eq A B 3
  obtain ⟨v2, g2, _⟩ := leqR_eq B C 3
  obtain ⟨v3, g3, _⟩ := leqR_eq A C 3
  obtain ⟨v4, g4, _⟩ := leqR_eq B A 3
  rw [g1] at h1
  rw [g2] at h2
  rw [g3] at h3
  rw [g4] at h4
  have tr : leqB A B 3 = true → leqB B C 3 = true → leqB A C 3 = true := leqB_trans rA rB rC
  have an : (leqB A B 3 && leqB B A 3) = decide (casesF A 3 = casesF B 3) := leq_anti rA rB
  have lA : (casesF A 3).length = 8 := casesF_len A 3
  have lB : (casesF B 3).length = 8 := casesF_len B 3
  have sA : ∀ f ∈ casesF A 3, f.offs.length ≤ 1000000 := fun f hf => by
    obtain ⟨k, hk, rfl⟩ := List.getElem_of_mem hf
    rw [casesF_at (by omega), (flatten_len (l := A) (Z := caseP k 3) (by rw [caseP_len]; exact rA)).1, caseP_len]
    omega
  have al := fun k hk => alike_all (x := casesF A 3) (y := casesF B 3) (by omega) k hk
  generalize leqB A B 3 = x at *
  generalize leqB B C 3 = y at *
  generalize leqB A C 3 = z at *
  generalize leqB B A 3 = u at *
  generalize casesF A 3 = X at *
  generalize casesF B 3 = Y at *
  simp +contextual (disch := omega) [Nat.add_assoc, Int.add_assoc, if_pos, if_neg, -Int.not_lt, -Int.not_le, -Nat.not_lt, -Nat.not_le, -List.length_flatMap, law07_LeqOrder.c, ansK law07_awake.a, ansK qA, ansK qB, ansK qC, ansK h1, ansK h2, ansK h3, ansK h4, ansK h5, ansK h6, ansK h7, lA, lB]
  refine gen_e (fun e => e 7 = .b true ∧ e 11 = .b x ∧ e 14 = .b y ∧ e 17 = .b z ∧ e 20 = .b u ∧ e 23 = .b (decide (X = Y)) ∧ e 25 = sV cF X ∧ e 27 = sV cF Y ∧ e 29 = .b true ∧ e 30 = .i .i64 0) (by simp +contextual (disch := omega) [Nat.add_assoc, Int.add_assoc, if_pos, if_neg, -Int.not_lt, -Int.not_le, -Nat.not_lt, -Nat.not_le, -List.length_flatMap]) ?_
  rintro E ⟨E7, E11, E14, E17, E20, E23, E25, E27, E29, E30⟩
  refine for_w (fun i e m x' => e 7 = .b true ∧ e 11 = .b x ∧ e 14 = .b y ∧ e 17 = .b z ∧ e 20 = .b u ∧ e 23 = .b (decide (X = Y)) ∧ e 25 = sV cF X ∧ e 27 = sV cF Y ∧ e 29 = .b (decide (X.take i = Y.take i)) ∧ e 30 = .i .i64 i) 8 ?_ ?_ ?_
  · simp +contextual (disch := omega) [Nat.add_assoc, Int.add_assoc, if_pos, if_neg, -Int.not_lt, -Int.not_le, -Nat.not_lt, -Nat.not_le, -List.length_flatMap, E7, E11, E14, E17, E20, E23, E25, E27, E29, E30]
  · rintro i e m x' hi ⟨g7, g11, g14, g17, g20, g23, g25, g27, g29, g30⟩
    have i1 : i < X.length := by omega
    have i2 : i < Y.length := by omega
    have hS := ref06_Same.a X[i] Y[i] (sA _ (List.getElem_mem i1))
    have hstep : decide (X.take (i + 1) = Y.take (i + 1)) = (decide (X.take i = Y.take i) && decide (X[i] = Y[i])) := by
      rw [Bool.eq_iff_iff]
      simp only [Bool.and_eq_true, decide_eq_true_eq]
      rw [List.take_succ_eq_append_getElem i1, List.take_succ_eq_append_getElem i2]
      constructor
      · intro h
        have := List.append_inj h (by simp; omega)
        exact ⟨this.1, List.singleton_inj.1 this.2⟩
      · rintro ⟨h1, h2⟩
        rw [h1, h2]
    rw [hstep]
    generalize decide (X.take i = Y.take i) = p at *
    generalize decide (X[i] = Y[i]) = q at *
    cases p with
    | true => simp +contextual (disch := omega) [Nat.add_assoc, Int.add_assoc, if_pos, if_neg, -Int.not_lt, -Int.not_le, -Nat.not_lt, -Nat.not_le, -List.length_flatMap, law07_LeqOrder.b1, g7, g11, g14, g17, g20, g23, g25, g27, g29, g30, hi, i1, i2, ansK hS]
    | false => simp +contextual (disch := omega) [Nat.add_assoc, Int.add_assoc, if_pos, if_neg, -Int.not_lt, -Int.not_le, -Nat.not_lt, -Nat.not_le, -List.length_flatMap, law07_LeqOrder.b1, g7, g11, g14, g17, g20, g23, g25, g27, g29, g30, hi, i1, i2, ansK hS]
  · rintro e m x' ⟨g7, g11, g14, g17, g20, g23, g25, g27, g29, g30⟩
    rw [List.take_of_length_le (by omega), List.take_of_length_le (by omega), ← an] at g29
    rw [← an] at g23
    clear an al
    cases x <;> cases y <;> cases z <;> cases u <;> simp at tr
    all_goals simp +contextual (disch := omega) [Nat.add_assoc, Int.add_assoc, if_pos, if_neg, -Int.not_lt, -Int.not_le, -Nat.not_lt, -Nat.not_le, -List.length_flatMap, law07_LeqOrder.b1, g7, g11, g14, g17, g20, g23, g25, g27, g29, g30]
end Pi
