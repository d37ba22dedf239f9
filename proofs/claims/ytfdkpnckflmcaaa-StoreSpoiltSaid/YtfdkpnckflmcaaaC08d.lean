/- Contracts: clauses (layer 8), what asks whether they are right. -/
import Derived.Test.YtfdkpnckflmcaaaC08c
import Derived.Test.YtfdkpnckflmcaaaCIdx
import Derived.Test.YtfdkpnckflmcaaaCode
set_option linter.unusedSimpArgs false
set_option linter.unusedVariables false
namespace Pi
theorem slices_IndexFunc_Clause.a (l : List C) (g : Nat) (caps : List V) (p : C → Bool) (hg : (ctx.opn g || ctx.frz g) = false) (hpr : ctx.prim g = none) (hc : ∀ D, frzL D caps = some (caps, [])) (h : ∀ k ∈ l, Ans ctx g ((.ag (cC k)) :: caps) (.b (p k))) (hl : l.length ≤ 9223372036854775807) :
    Ans ctx slices_IndexFunc_Clause.n [sV cC l, .fn (.func g) [] caps] (.i .i64 (idxS p l)) := by
  refine ans slices_IndexFunc_Clause.f ?_
  simp +contextual (disch := omega) [Nat.add_assoc, Int.add_assoc, if_pos, if_neg, -Int.not_lt, -Int.not_le, -Nat.not_lt, -Nat.not_le, -List.length_flatMap, slices_IndexFunc_Clause.c]
  refine for_w (fun i e m x => e 0 = sV cC l ∧ e 1 = .fn (.func g) [] caps ∧ e 7 = .i .i64 l.length ∧ e 8 = .i .i64 i ∧ (l.take i).all (fun a => !p a) = true) l.length ?_ ?_ ?_
  · simp +contextual (disch := omega) [Nat.add_assoc, Int.add_assoc, if_pos, if_neg, -Int.not_lt, -Int.not_le, -Nat.not_lt, -Nat.not_le, -List.length_flatMap]
  · rintro i e m x hi ⟨g1, g2, g3, g4, g5⟩
    have hk := h l[i] (List.getElem_mem hi)
    obtain ⟨q1, q2⟩ := idx_take hi g5
    cases hp : p l[i] with
    | true =>
      rw [hp] at hk
      simp +contextual (disch := omega) [Nat.add_assoc, Int.add_assoc, if_pos, if_neg, -Int.not_lt, -Int.not_le, -Nat.not_lt, -Nat.not_le, -List.length_flatMap, slices_IndexFunc_Clause.b1, g1, g2, g3, g4, hi, CallX_cl (C := ctx) (g := g) hpr (orF hg).1 (orF hg).2, hc, ansK hk, q1 hp]
    | false =>
      rw [hp] at hk
      simp +contextual (disch := omega) [Nat.add_assoc, Int.add_assoc, if_pos, if_neg, -Int.not_lt, -Int.not_le, -Nat.not_lt, -Nat.not_le, -List.length_flatMap, slices_IndexFunc_Clause.b1, g1, g2, g3, g4, hi, CallX_cl (C := ctx) (g := g) hpr (orF hg).1 (orF hg).2, hc, ansK hk, q2 hp]
  · rintro e m x ⟨g1, g2, g3, g4, g5⟩
    rw [List.take_length] at g5
    simp +contextual (disch := omega) [Nat.add_assoc, Int.add_assoc, if_pos, if_neg, -Int.not_lt, -Int.not_le, -Nat.not_lt, -Nat.not_le, -List.length_flatMap, slices_IndexFunc_Clause.b1, g1, g2, g3, g4, idx_all g5]
theorem slices_ContainsFunc_Clause.a (l : List C) (g : Nat) (caps : List V) (p : C → Bool) (hg : (ctx.opn g || ctx.frz g) = false) (hpr : ctx.prim g = none) (hc : ∀ D, frzL D caps = some (caps, [])) (h : ∀ k ∈ l, Ans ctx g ((.ag (cC k)) :: caps) (.b (p k))) (hl : l.length ≤ 9223372036854775807) :
    Ans ctx slices_ContainsFunc_Clause.n [sV cC l, .fn (.func g) [] caps] (.b (l.any p)) := by
  refine ans slices_ContainsFunc_Clause.f ?_
  simp +contextual (disch := omega) [Nat.add_assoc, Int.add_assoc, if_pos, if_neg, -Int.not_lt, -Int.not_le, -Nat.not_lt, -Nat.not_le, -List.length_flatMap, slices_ContainsFunc_Clause.c, hc, ansK (slices_IndexFunc_Clause.a l g caps p hg hpr hc h hl), idx_ge]
/-- Room for as many, behind no slice. -/
theorem grow_Atom.w {m : Sto} {x : Nat} {n : Int} {K : CR → Sto → Nat → Prop} (hn : 0 ≤ n ∧ n ≤ 2147483648)
    (hK : ∀ B m' x', x ≤ x' → Bf m' B cA 2 [] x x' → (∀ j, j < x → m' j = m j) → K (.ret B) m' x') :
    wpCall ctx (.fn (.func slices_Grow_Atom.n) [] []) [.ns, .i .i64 n] m x K := by
  refine openg_w slices_Grow_Atom.f rfl (.inl rfl) ?_
  by_cases h0 : n = 0
  · subst h0
    simp +contextual (disch := omega) [Nat.add_assoc, Int.add_assoc, if_pos, if_neg, -Int.not_lt, -Int.not_le, -Nat.not_lt, -Nat.not_le, -List.length_flatMap, slices_Grow_Atom.c]
    exact hK .ns m _ (by omega) .nil (fun _ _ => rfl)
  · simp +contextual (disch := omega) [Nat.add_assoc, Int.add_assoc, if_pos, if_neg, -Int.not_lt, -Int.not_le, -Nat.not_lt, -Nat.not_le, -List.length_flatMap, slices_Grow_Atom.c]
    exact hK _ _ _ (by omega) (.memr (cs := zeros ([V.i .i64 0, V.i .i64 0]) n.toNat) (by simp) ⟨by simp, by simp, fun D => frzL_zeros (by simp) D _⟩ rfl (by omega) (by omega)) (by simp +contextual (disch := omega) [Nat.add_assoc, Int.add_assoc, if_pos, if_neg, -Int.not_lt, -Int.not_le, -Nat.not_lt, -Nat.not_le, -List.length_flatMap])
theorem slices_Concat_Atom.a (a b : List A) (h : a.length + b.length ≤ 1000000) : Ans ctx slices_Concat_Atom.n [.sl [sV cA a, sV cA b] 2] (sV cA (a ++ b)) := by
  refine ans slices_Concat_Atom.f ?_
  simp +contextual (disch := omega) [Nat.add_assoc, Int.add_assoc, if_pos, if_neg, -Int.not_lt, -Int.not_le, -Nat.not_lt, -Nat.not_le, -List.length_flatMap, slices_Concat_Atom.c]
  refine un_w ?_
  simp +contextual (disch := omega) [Nat.add_assoc, Int.add_assoc, if_pos, if_neg, -Int.not_lt, -Int.not_le, -Nat.not_lt, -Nat.not_le, -List.length_flatMap, slices_Concat_Atom.b1]
  refine un_w ?_
  simp +contextual (disch := omega) [Nat.add_assoc, Int.add_assoc, if_pos, if_neg, -Int.not_lt, -Int.not_le, -Nat.not_lt, -Nat.not_le, -List.length_flatMap, slices_Concat_Atom.b1]
  refine un_w ?_
  simp +contextual (disch := omega) [Nat.add_assoc, Int.add_assoc, if_pos, if_neg, -Int.not_lt, -Int.not_le, -Nat.not_lt, -Nat.not_le, -List.length_flatMap, slices_Concat_Atom.b1]
  refine grow_Atom.w (by omega) ?_
  intro B m' x' h1 h2 h3
  simp +contextual (disch := omega) [Nat.add_assoc, Int.add_assoc, if_pos, if_neg, -Int.not_lt, -Int.not_le, -Nat.not_lt, -Nat.not_le, -List.length_flatMap]
  refine un_w ?_
  simp +contextual (disch := omega) [Nat.add_assoc, Int.add_assoc, if_pos, if_neg, -Int.not_lt, -Int.not_le, -Nat.not_lt, -Nat.not_le, -List.length_flatMap, slices_Concat_Atom.b2]
  refine h2.ap a (by simp +contextual (disch := omega) [Nat.add_assoc, Int.add_assoc, if_pos, if_neg, -Int.not_lt, -Int.not_le, -Nat.not_lt, -Nat.not_le, -List.length_flatMap]) (by omega) (by omega) rfl rfl (by simp; omega) ?_
  intro B' ws m2 q0 q1 q2 q3
  simp +contextual (disch := omega) [Nat.add_assoc, Int.add_assoc, if_pos, if_neg, -Int.not_lt, -Int.not_le, -Nat.not_lt, -Nat.not_le, -List.length_flatMap, q0]
  refine un_w ?_
  simp +contextual (disch := omega) [Nat.add_assoc, Int.add_assoc, if_pos, if_neg, -Int.not_lt, -Int.not_le, -Nat.not_lt, -Nat.not_le, -List.length_flatMap, slices_Concat_Atom.b2]
  refine q1.ap b (by simp +contextual (disch := omega) [Nat.add_assoc, Int.add_assoc, if_pos, if_neg, -Int.not_lt, -Int.not_le, -Nat.not_lt, -Nat.not_le, -List.length_flatMap]) (by omega) (by omega) rfl rfl (by simp; omega) ?_
  intro B2 ws2 m3 p0 p1 p2 p3
  simp +contextual (disch := omega) [Nat.add_assoc, Int.add_assoc, if_pos, if_neg, -Int.not_lt, -Int.not_le, -Nat.not_lt, -Nat.not_le, -List.length_flatMap, p0]
  refine un_w ?_
  have hz := p1.fz24
  simp +contextual (disch := omega) [Nat.add_assoc, Int.add_assoc, if_pos, if_neg, -Int.not_lt, -Int.not_le, -Nat.not_lt, -Nat.not_le, -List.length_flatMap, slices_Concat_Atom.b2, hz]
def atomsC (c : C) : List A := c.frm ++ [c.to]
theorem atoms_w {l : List C} (hl : l.length ≤ 1000000) (hf : ∀ c ∈ l, c.frm.length ≤ 100000) {ll x0 : Nat} {m : Sto} {K : CR → Sto → Nat → Prop} (I : Nat → Nat → Sto → Prop) (E : Sto → Prop)
    (fr : ∀ i k m m', I i k m → (∀ j, j < x0 → m' j = m j) → I i k m') (h0 : I 0 0 m)
    (hs : ∀ (i : Nat) (hi : i < l.length) (k : Nat) (hk : k < (atomsC l[i]).length) m x K', x0 ≤ x → I i k m → (∀ m' x', x ≤ x' → I i (k + 1) m' → K' (.ret (.b true)) m' x') → (∀ m' x', x ≤ x' → E m' → K' (.ret (.b false)) m' x') →
      wpCall ctx (.fn (.yield ll) [] []) [.i .i64 i, .ag (cA (atomsC l[i])[k])] m x K')
    (hr : ∀ (i : Nat) (hi : i < l.length) m, I i (atomsC l[i]).length m → I (i + 1) 0 m)
    (hd : ∀ m' x', x0 ≤ x' → I l.length 0 m' → K (.ret (.tu [])) m' x') (he : ∀ m' x', x0 ≤ x' → E m' → K (.ret (.tu [])) m' x') :
    wpCall ctx (.fn (.func horn_atoms_1.n) [] [.rp [sV cC l]]) [.fn (.yield ll) [] []] m x0 K := by
  refine openg_w horn_atoms_1.f rfl (.inr (by simp +contextual (disch := omega) [Nat.add_assoc, Int.add_assoc, if_pos, if_neg, -Int.not_lt, -Int.not_le, -Nat.not_lt, -Nat.not_le, -List.length_flatMap])) ?_
  simp +contextual (disch := omega) [Nat.add_assoc, Int.add_assoc, if_pos, if_neg, -Int.not_lt, -Int.not_le, -Nat.not_lt, -Nat.not_le, -List.length_flatMap, horn_atoms_1.c]
  refine for_w (fun i e m x => e 0 = .fn (.yield ll) [] [] ∧ e 7 = sV cC l ∧ e 8 = .i .i64 l.length ∧ e 9 = .i .i64 i ∧ x0 ≤ x ∧ I i 0 m) l.length ?_ ?_ ?_
  · simp +contextual (disch := omega) [Nat.add_assoc, Int.add_assoc, if_pos, if_neg, -Int.not_lt, -Int.not_le, -Nat.not_lt, -Nat.not_le, -List.length_flatMap]
    exact h0
  · rintro i e m x hi ⟨g1, g2, g3, g4, g5, g6⟩
    have hfi := hf l[i] (List.getElem_mem hi)
    have hal : (atomsC l[i]).length = l[i].frm.length + 1 := by simp [atomsC]
    have hcat := slices_Concat_Atom.a l[i].frm [l[i].to] (by simp; omega)
    have hc1 : sV cA [l[i].to] = .sl (cA l[i].to) 1 := rfl
    rw [hc1] at hcat
    simp +contextual (disch := omega) [Nat.add_assoc, Int.add_assoc, if_pos, if_neg, -Int.not_lt, -Int.not_le, -Nat.not_lt, -Nat.not_le, -List.length_flatMap, horn_atoms_1.b2, g1, g2, g3, g4, hi, ansK hcat]
    have hg : ∀ m', (∀ j, j < x0 → m' j = m j) → I i 0 m' := fun m' h => fr _ _ _ _ g6 h
    refine for_w (fun k e m x => e 0 = .fn (.yield ll) [] [] ∧ e 3 = .i .i64 i ∧ e 7 = sV cC l ∧ e 8 = .i .i64 l.length ∧ e 9 = .i .i64 i ∧ e 20 = sV cA (atomsC l[i]) ∧ e 21 = .i .i64 (atomsC l[i]).length ∧ e 22 = .i .i64 k ∧ x0 ≤ x ∧ I i k m) (atomsC l[i]).length ?_ ?_ ?_
    · simp +contextual (disch := omega) [Nat.add_assoc, Int.add_assoc, if_pos, if_neg, -Int.not_lt, -Int.not_le, -Nat.not_lt, -Nat.not_le, -List.length_flatMap, g1, g2, g3, g4]
      refine ⟨rfl, by simp [atomsC], by omega, hg _ (by simp +contextual (disch := omega) [Nat.add_assoc, Int.add_assoc, if_pos, if_neg, -Int.not_lt, -Int.not_le, -Nat.not_lt, -Nat.not_le, -List.length_flatMap])⟩
    · rintro k e m x hk ⟨q1, q2, q3, q4, q5, q6, q7, q8, q9, q10⟩
      simp +contextual (disch := omega) [Nat.add_assoc, Int.add_assoc, if_pos, if_neg, -Int.not_lt, -Int.not_le, -Nat.not_lt, -Nat.not_le, -List.length_flatMap, horn_atoms_1.b1, q1, q2, q3, q4, q5, q6, q7, q8, hk]
      refine hs i hi k hk _ _ _ (by omega) (fr _ _ _ _ q10 (by simp +contextual (disch := omega) [Nat.add_assoc, Int.add_assoc, if_pos, if_neg, -Int.not_lt, -Int.not_le, -Nat.not_lt, -Nat.not_le, -List.length_flatMap])) ?_ ?_
      · intro m' x' p1 p2
        simp +contextual (disch := omega) [Nat.add_assoc, Int.add_assoc, if_pos, if_neg, -Int.not_lt, -Int.not_le, -Nat.not_lt, -Nat.not_le, -List.length_flatMap, q1, q2, q3, q4, q5, q6, q7, q8]
        exact ⟨by omega, p2⟩
      · intro m' x' p1 p2
        simp +contextual (disch := omega) [Nat.add_assoc, Int.add_assoc, if_pos, if_neg, -Int.not_lt, -Int.not_le, -Nat.not_lt, -Nat.not_le, -List.length_flatMap]
        exact he _ _ (by omega) p2
    · rintro e m x ⟨q1, q2, q3, q4, q5, q6, q7, q8, q9, q10⟩
      simp +contextual (disch := omega) [Nat.add_assoc, Int.add_assoc, if_pos, if_neg, -Int.not_lt, -Int.not_le, -Nat.not_lt, -Nat.not_le, -List.length_flatMap, horn_atoms_1.b1, q1, q2, q3, q4, q5, q6, q7, q8]
      exact ⟨by omega, hr i hi _ q10⟩
  · rintro e m x ⟨g1, g2, g3, g4, g5, g6⟩
    simp +contextual (disch := omega) [Nat.add_assoc, Int.add_assoc, if_pos, if_neg, -Int.not_lt, -Int.not_le, -Nat.not_lt, -Nat.not_le, -List.length_flatMap, horn_atoms_1.b2, g1, g2, g3, g4]
    exact hd _ _ (by omega) g6
theorem horn_atoms.a (l : List C) : Ans ctx horn_atoms.n [sV cC l] (.fn (.func horn_atoms_1.n) [] [.rp [sV cC l]]) := by
  refine ans horn_atoms.f ?_
  simp +contextual (disch := omega) [Nat.add_assoc, Int.add_assoc, if_pos, if_neg, -Int.not_lt, -Int.not_le, -Nat.not_lt, -Nat.not_le, -List.length_flatMap, horn_atoms.c]
theorem horn_Right_1.a (c : C) (h : c.frm.length ≤ 9223372036854775807) : Ans ctx horn_Right_1.n [.ag (cC c)] (.b (manyC c)) := by
  refine ans horn_Right_1.f ?_
  simp +contextual (disch := omega) [Nat.add_assoc, Int.add_assoc, if_pos, if_neg, -Int.not_lt, -Int.not_le, -Nat.not_lt, -Nat.not_le, -List.length_flatMap, horn_Right_1.c, manyC]
theorem okC_atoms (vars : Int) (c : C) : okC vars c = (!manyC c && (atomsC c).all (okA vars)) := rfl
theorem horn_Right.a (vars : Int) (l : List C) (hl : l.length ≤ 9223372036854775807) (hf : ∀ c ∈ l, c.frm.length ≤ 9223372036854775807) : Ans ctx horn_Right.n [.i .i64 vars, sV cC l] (.b (rightC vars l)) := by
  refine ans horn_Right.f ?_
  have hcf := slices_ContainsFunc_Clause.a l horn_Right_1.n [] manyC rfl rfl (by simp) (fun c hc => horn_Right_1.a c (hf c hc)) (by omega)
  by_cases h1 : vars < 1
  · have e : rightC vars l = false := by simp [rightC]; omega
    simp +contextual (disch := omega) [Nat.add_assoc, Int.add_assoc, if_pos, if_neg, -Int.not_lt, -Int.not_le, -Nat.not_lt, -Nat.not_le, -List.length_flatMap, horn_Right.c, e]
  by_cases h2 : 16 < vars
  · have e : rightC vars l = false := by simp [rightC]; omega
    simp +contextual (disch := omega) [Nat.add_assoc, Int.add_assoc, if_pos, if_neg, -Int.not_lt, -Int.not_le, -Nat.not_lt, -Nat.not_le, -List.length_flatMap, horn_Right.c, e]
  by_cases h3 : 60 < l.length
  · have e : rightC vars l = false := by simp [rightC]; omega
    simp +contextual (disch := omega) [Nat.add_assoc, Int.add_assoc, if_pos, if_neg, -Int.not_lt, -Int.not_le, -Nat.not_lt, -Nat.not_le, -List.length_flatMap, horn_Right.c, e]
  have er : rightC vars l = l.all (okC vars) := by simp [rightC]; omega
  cases hm : l.any manyC with
  | true =>
    have e : rightC vars l = false := by
      rw [er, List.all_eq_false]
      obtain ⟨c, c1, c2⟩ := List.any_eq_true.1 hm
      exact ⟨c, c1, by simp [okC, c2]⟩
    rw [hm] at hcf
    simp +contextual (disch := omega) [Nat.add_assoc, Int.add_assoc, if_pos, if_neg, -Int.not_lt, -Int.not_le, -Nat.not_lt, -Nat.not_le, -List.length_flatMap, horn_Right.c, e, ansK hcf]
  | false =>
    have e2 : l.all (okC vars) = l.all fun c => (atomsC c).all (okA vars) := by
      rw [Bool.eq_iff_iff]
      simp only [List.all_eq_true]
      have hm' := List.any_eq_false.1 hm
      exact ⟨fun h c hc => by have := h c hc; rw [okC_atoms] at this; simp at this; simpa using this.2, fun h c hc => by rw [okC_atoms]; have := hm' c hc; simp at this; simpa [this] using h c hc⟩
    have hs6 : ∀ c ∈ l, c.frm.length ≤ 100000 := fun c hc => by
      have := List.any_eq_false.1 hm c hc
      simp [manyC] at this
      omega
    rw [hm] at hcf
    simp +contextual (disch := omega) [Nat.add_assoc, Int.add_assoc, if_pos, if_neg, -Int.not_lt, -Int.not_le, -Nat.not_lt, -Nat.not_le, -List.length_flatMap, horn_Right.c, ansK hcf, ansK (horn_atoms.a l)]
    rw [er, e2]
    refine gen_e (fun E => E 2 = .p 0 0 ∧ E 4 = .p 1 0 ∧ E 25 = .fn (.func horn_atoms_1.n) [] [.rp [sV cC l]]) (by simp +contextual (disch := omega) [Nat.add_assoc, Int.add_assoc, if_pos, if_neg, -Int.not_lt, -Int.not_le, -Nat.not_lt, -Nat.not_le, -List.length_flatMap]) ?_
    rintro E ⟨E1, E2, E3⟩
    refine rf_g fun A B hA hB => ?_
    simp +contextual (disch := omega) [Nat.add_assoc, Int.add_assoc, if_pos, if_neg, -Int.not_lt, -Int.not_le, -Nat.not_lt, -Nat.not_le, -List.length_flatMap, E3]
    refine atoms_w (by omega) hs6 (fun i k m => m 19 = some .dfr ∧ m 20 = some (.loop ⟨E, [26, 27], A, B, .ready, none⟩) ∧ m 0 = some (.cells [.i .i64 vars] false) ∧ m 1 = some (.cells [.b false] false) ∧
        (l.take i).all (fun c => (atomsC c).all (okA vars)) = true ∧ ∀ (hi : i < l.length), ((atomsC l[i]).take k).all (okA vars) = true)
      (fun m => m 19 = some .dfr ∧ m 20 = some (.loop ⟨E, [26, 27], A, B, .done, some .ret⟩) ∧ m 1 = some (.cells [.b false] false) ∧ l.all (fun c => (atomsC c).all (okA vars)) = false) ?_ ?_ ?_ ?_ ?_ ?_
    · rintro i k m m' ⟨q1, q2, q3, q4, q5, q6⟩ h
      exact ⟨(h _ (by omega)).trans q1, (h _ (by omega)).trans q2, (h _ (by omega)).trans q3, (h _ (by omega)).trans q4, q5, q6⟩
    · simp +contextual (disch := omega) [Nat.add_assoc, Int.add_assoc, if_pos, if_neg, -Int.not_lt, -Int.not_le, -Nat.not_lt, -Nat.not_le, -List.length_flatMap]
    · rintro i hi k hk m x K' hx ⟨q1, q2, q3, q4, q5, q6⟩ ht hf'
      have q6 := q6 hi
      refine yield_w q2 rfl rfl ?_
      generalize ha : (atomsC l[i])[k] = a
      cases hok : okA vars a with
      | true =>
        have hok' := hok
        simp only [okA, Bool.and_eq_true, decide_eq_true_eq] at hok'
        refine w_as hA ?_
        simp +contextual (disch := omega) [Nat.add_assoc, Int.add_assoc, if_pos, if_neg, -Int.not_lt, -Int.not_le, -Nat.not_lt, -Nat.not_le, -List.length_flatMap, horn_Right.a1, q2]
        refine w_as hB ?_
        simp +contextual (disch := omega) [Nat.add_assoc, Int.add_assoc, if_pos, if_neg, -Int.not_lt, -Int.not_le, -Nat.not_lt, -Nat.not_le, -List.length_flatMap, horn_Right.b2, q1, q2, q3, q4, E1, E2]
        refine ht _ _ (by omega) ?_
        simp +contextual (disch := omega) [Nat.add_assoc, Int.add_assoc, if_pos, if_neg, -Int.not_lt, -Int.not_le, -Nat.not_lt, -Nat.not_le, -List.length_flatMap, q1, q2, q3, q4, q5, take_all hk q6 (ha ▸ hok)]
      | false =>
        have hok' : a.var < 0 ∨ (0 ≤ a.var ∧ vars ≤ a.var) ∨ (0 ≤ a.var ∧ a.var < vars ∧ a.off < 0) ∨ (0 ≤ a.var ∧ a.var < vars ∧ 0 ≤ a.off ∧ 1000 < a.off) := by
          simp [okA] at hok; omega
        have hbad : l.all (fun c => (atomsC c).all (okA vars)) = false := by
          rw [List.all_eq_false]
          refine ⟨l[i], List.getElem_mem hi, ?_⟩
          have : (atomsC l[i]).all (okA vars) = false := List.all_eq_false.2 ⟨_, List.getElem_mem hk, by rw [ha, hok]; simp⟩
          simp [this]
        refine w_as hA ?_
        simp +contextual (disch := omega) [Nat.add_assoc, Int.add_assoc, if_pos, if_neg, -Int.not_lt, -Int.not_le, -Nat.not_lt, -Nat.not_le, -List.length_flatMap, horn_Right.a1, q2]
        refine w_as hB ?_
        rcases hok' with h | h | h | h
        all_goals (simp +contextual (disch := omega) [Nat.add_assoc, Int.add_assoc, if_pos, if_neg, -Int.not_lt, -Int.not_le, -Nat.not_lt, -Nat.not_le, -List.length_flatMap, horn_Right.b2, q1, q2, q3, q4, E1, E2])
        all_goals (refine hf' _ _ (by omega) ?_; simp +contextual (disch := omega) [Nat.add_assoc, Int.add_assoc, if_pos, if_neg, -Int.not_lt, -Int.not_le, -Nat.not_lt, -Nat.not_le, -List.length_flatMap, q1, hbad])
    · rintro i hi m ⟨q1, q2, q3, q4, q5, q6⟩
      have q6 := q6 hi
      rw [List.take_length] at q6
      exact ⟨q1, q2, q3, q4, take_all hi q5 q6, fun h => by simp⟩
    · rintro m' x' hx ⟨q1, q2, q3, q4, q5, q6⟩
      rw [List.take_length] at q5
      simp +contextual (disch := omega) [Nat.add_assoc, Int.add_assoc, if_pos, if_neg, -Int.not_lt, -Int.not_le, -Nat.not_lt, -Nat.not_le, -List.length_flatMap, q1, q2, q3, q4, E2, q5]
    · rintro m' x' hx ⟨q1, q2, q3, q4⟩
      simp +contextual (disch := omega) [Nat.add_assoc, Int.add_assoc, if_pos, if_neg, -Int.not_lt, -Int.not_le, -Nat.not_lt, -Nat.not_le, -List.length_flatMap, q1, q2, q3, q4, E2]
end Pi
