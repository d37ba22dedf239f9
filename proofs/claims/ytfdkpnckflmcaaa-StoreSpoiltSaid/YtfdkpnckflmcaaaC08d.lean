/- Contracts: clauses (layer 8), what asks whether they are right. -/
import Derived.Test.YtfdkpnckflmcaaaEnc
import Derived.Test.YtfdkpnckflmcaaaCode
set_option linter.unusedSimpArgs false
set_option linter.unusedVariables false
namespace Pi
theorem slices_IndexFunc_Clause.a (l : List C) (g : Nat) (caps : List V) (p : C → Bool) (hg : (ctx.opn g || ctx.frz g) = false) (hpr : ctx.prim g = none) (hc : ∀ D, frzL D caps = some (caps, [])) (h : ∀ k ∈ l, Ans ctx g ((.ag (cC k)) :: caps) (.b (p k))) (hl : l.length ≤ 9223372036854775807) :
    Ans ctx slices_IndexFunc_Clause.n [sV cC l, .fn (.func g) [] caps] (.i .i64 (idxS p l)) := by
  refine ans slices_IndexFunc_Clause.f ?_
  simp +contextual (disch := omega) [Nat.add_assoc, Int.add_assoc, if_pos, if_neg, -Int.not_lt, -Int.not_le, -Nat.not_lt, -Nat.not_le, -List.length_flatMap, slices_IndexFunc_Clause.c]
  refine for_w (fun i e m x => e 0 = sV cC l ∧ e 1 = .fn (.func g) [] caps ∧ e 7 = .i .i64 l.length ∧ e 8 = .i .i64 i ∧ (l.take i).all (fun a => !p a) = true) l.length ?_ ?_ ?_
  · simp +contextual (disch := omega) [Nat.add_assoc, Int.add_assoc, if_pos, if_neg, -Int.not_lt, -Int.not_le, -Nat.not_lt, -Nat.not_le, -List.length_flatMap]
  · rintro i e m x hi ⟨g1, g2, g3, g4, g5⟩
    have hk := h l[i] (List.getElem_mem hi)
    obtain ⟨q1, q2⟩ := idx_take hi g5
    cases hp : p l[i] with
    | true =>
      rw [hp] at hk
      simp +contextual (disch := omega) [Nat.add_assoc, Int.add_assoc, if_pos, if_neg, -Int.not_lt, -Int.not_le, -Nat.not_lt, -Nat.not_le, -List.length_flatMap, slices_IndexFunc_Clause.b1, g1, g2, g3, g4, hi, CallX_cl (C := ctx) (g := g) hpr (orF hg).1 (orF hg).2, hc, ansK hk, q1 hp]
    | false =>
      rw [hp] at hk
      simp +contextual (disch := omega) [Nat.add_assoc, Int.add_assoc, if_pos, if_neg, -Int.not_lt, -Int.not_le, -Nat.not_lt, -Nat.not_le, -List.length_flatMap, slices_IndexFunc_Clause.b1, g1, g2, g3, g4, hi, CallX_cl (C := ctx) (g := g) hpr (orF hg).1 (orF hg).2, hc, ansK hk, q2 hp]
  · rintro e m x ⟨g1, g2, g3, g4, g5⟩
    rw [List.take_length] at g5
    simp +contextual (disch := omega) [Nat.add_assoc, Int.add_assoc, if_pos, if_neg, -Int.not_lt, -Int.not_le, -Nat.not_lt, -Nat.not_le, -List.length_flatMap, slices_IndexFunc_Clause.b1, g1, g2, g3, g4, idx_all g5]
theorem slices_ContainsFunc_Clause.a (l : List C) (g : Nat) (caps : List V) (p : C → Bool) (hg : (ctx.opn g || ctx.frz g) = false) (hpr : ctx.prim g = none) (hc : ∀ D, frzL D caps = some (caps, [])) (h : ∀ k ∈ l, Ans ctx g ((.ag (cC k)) :: caps) (.b (p k))) (hl : l.length ≤ 9223372036854775807) :
    Ans ctx slices_ContainsFunc_Clause.n [sV cC l, .fn (.func g) [] caps] (.b (l.any p)) := by
  refine ans slices_ContainsFunc_Clause.f ?_
  simp +contextual (disch := omega) [Nat.add_assoc, Int.add_assoc, if_pos, if_neg, -Int.not_lt, -Int.not_le, -Nat.not_lt, -Nat.not_le, -List.length_flatMap, slices_ContainsFunc_Clause.c, hc, ansK (slices_IndexFunc_Clause.a l g caps p hg hpr hc h hl), idx_ge]
/-- Room for as many, behind no slice. -/
theorem grow_Atom.w {m : Sto} {x : Nat} {n : Int} {K : CR → Sto → Nat → Prop} (hn : 0 ≤ n ∧ n ≤ 2147483648)
    (hK : ∀ B m' x', x ≤ x' → Bf m' B cA 2 [] x x' → (∀ j, j < x → m' j = m j) → K (.ret B) m' x') :
    wpCall ctx (.fn (.func slices_Grow_Atom.n) [] []) [.ns, .i .i64 n] m x K := by
  refine openg_w slices_Grow_Atom.f rfl (.inl rfl) ?_
  by_cases h0 : n = 0
  · subst h0
    simp +contextual (disch := omega) [Nat.add_assoc, Int.add_assoc, if_pos, if_neg, -Int.not_lt, -Int.not_le, -Nat.not_lt, -Nat.not_le, -List.length_flatMap, slices_Grow_Atom.c]
    exact hK .ns m _ (by omega) .nil (fun _ _ => rfl)
  · simp +contextual (disch := omega) [Nat.add_assoc, Int.add_assoc, if_pos, if_neg, -Int.not_lt, -Int.not_le, -Nat.not_lt, -Nat.not_le, -List.length_flatMap, slices_Grow_Atom.c]
    exact hK _ _ _ (by omega) (.memr (cs := zeros ([V.i .i64 0, V.i .i64 0]) n.toNat) (by simp) ⟨by simp, by simp, fun D => frzL_zeros (by simp) D _⟩ rfl (by omega) (by omega)) (by simp +contextual (disch := omega) [Nat.add_assoc, Int.add_assoc, if_pos, if_neg, -Int.not_lt, -Int.not_le, -Nat.not_lt, -Nat.not_le, -List.length_flatMap])
theorem slices_Concat_Atom.a (a b : List A) (h : a.length + b.length ≤ 1000000) : Ans ctx slices_Concat_Atom.n [.sl [sV cA a, sV cA b] 2] (sV cA (a ++ b)) := by
  refine ans slices_Concat_Atom.f ?_
  simp +contextual (disch := omega) [Nat.add_assoc, Int.add_assoc, if_pos, if_neg, -Int.not_lt, -Int.not_le, -Nat.not_lt, -Nat.not_le, -List.length_flatMap, slices_Concat_Atom.c]
  refine un_w ?_
  simp +contextual (disch := omega) [Nat.add_assoc, Int.add_assoc, if_pos, if_neg, -Int.not_lt, -Int.not_le, -Nat.not_lt, -Nat.not_le, -List.length_flatMap, slices_Concat_Atom.b1]
  refine un_w ?_
  simp +contextual (disch := omega) [Nat.add_assoc, Int.add_assoc, if_pos, if_neg, -Int.not_lt, -Int.not_le, -Nat.not_lt, -Nat.not_le, -List.length_flatMap, slices_Concat_Atom.b1]
  refine un_w ?_
  simp +contextual (disch := omega) [Nat.add_assoc, Int.add_assoc, if_pos, if_neg, -Int.not_lt, -Int.not_le, -Nat.not_lt, -Nat.not_le, -List.length_flatMap, slices_Concat_Atom.b1]
  refine grow_Atom.w (by omega) ?_
  intro B m' x' h1 h2 h3
  simp +contextual (disch := omega) [Nat.add_assoc, Int.add_assoc, if_pos, if_neg, -Int.not_lt, -Int.not_le, -Nat.not_lt, -Nat.not_le, -List.length_flatMap]
  refine un_w ?_
  simp +contextual (disch := omega) [Nat.add_assoc, Int.add_assoc, if_pos, if_neg, -Int.not_lt, -Int.not_le, -Nat.not_lt, -Nat.not_le, -List.length_flatMap, slices_Concat_Atom.b2]
  refine h2.ap a (by simp +contextual (disch := omega) [Nat.add_assoc, Int.add_assoc, if_pos, if_neg, -Int.not_lt, -Int.not_le, -Nat.not_lt, -Nat.not_le, -List.length_flatMap]) (by omega) (by omega) rfl rfl (by simp; omega) ?_
  intro B' ws m2 q0 q1 q2 q3
  simp +contextual (disch := omega) [Nat.add_assoc, Int.add_assoc, if_pos, if_neg, -Int.not_lt, -Int.not_le, -Nat.not_lt, -Nat.not_le, -List.length_flatMap, q0]
  refine un_w ?_
  simp +contextual (disch := omega) [Nat.add_assoc, Int.add_assoc, if_pos, if_neg, -Int.not_lt, -Int.not_le, -Nat.not_lt, -Nat.not_le, -List.length_flatMap, slices_Concat_Atom.b2]
  refine q1.ap b (by simp +contextual (disch := omega) [Nat.add_assoc, Int.add_assoc, if_pos, if_neg, -Int.not_lt, -Int.not_le, -Nat.not_lt, -Nat.not_le, -List.length_flatMap]) (by omega) (by omega) rfl rfl (by simp; omega) ?_
  intro B2 ws2 m3 p0 p1 p2 p3
  simp +contextual (disch := omega) [Nat.add_assoc, Int.add_assoc, if_pos, if_neg, -Int.not_lt, -Int.not_le, -Nat.not_lt, -Nat.not_le, -List.length_flatMap, p0]
  refine un_w ?_
  have hz := p1.fz24
  simp +contextual (disch := omega) [Nat.add_assoc, Int.add_assoc, if_pos, if_neg, -Int.not_lt, -Int.not_le, -Nat.not_lt, -Nat.not_le, -List.length_flatMap, slices_Concat_Atom.b2, hz]
def atomsC (c : C) : List A := c.frm ++ [c.to]
theorem atoms_w {l : List C} (hl : l.length ≤ 1000000) (hf : ∀ c ∈ l, c.frm.length ≤ 100000) {ll x0 : Nat} {m : Sto} {K : CR → Sto → Nat → Prop} (I : Nat → Nat → Sto → Prop) (E : Sto → Prop)
    (fr : ∀ i k m m', I i k m → (∀ j, j < x0 → m' j = m j) → I i k m') (h0 : I 0 0 m)
    (hs : ∀ (i : Nat) (hi : i < l.length) (k : Nat) (hk : k < (atomsC l[i]).length) m x K', x0 ≤ x → I i k m → (∀ m' x', x ≤ x' → I i (k + 1) m' → K' (.ret (.b true)) m' x') → (∀ m' x', x ≤ x' → E m' → K' (.ret (.b false)) m' x') →
      wpCall ctx (.fn (.yield ll) [] []) [.i .i64 i, .ag (cA (atomsC l[i])[k])] m x K')
    (hr : ∀ (i : Nat) (hi : i < l.length) m, I i (atomsC l[i]).length m → I (i + 1) 0 m)
    (hd : ∀ m' x', x0 ≤ x' → I l.length 0 m' → K (.ret (.tu [])) m' x') (he : ∀ m' x', x0 ≤ x' → E m' → K (.ret (.tu [])) m' x') :
    wpCall ctx (.fn (.func horn_atoms_1.n) [] [.rp [sV cC l]]) [.fn (.yield ll) [] []] m x0 K := by
  refine openg_w horn_atoms_1.f rfl (.inr (by simp +contextual (disch := omega) [Nat.add_assoc, Int.add_assoc, if_pos, if_neg, -Int.not_lt, -Int.not_le, -Nat.not_lt, -Nat.not_le, -List.length_flatMap])) ?_
  simp +contextual (disch := omega) [Nat.add_assoc, Int.add_assoc, if_pos, if_neg, -Int.not_lt, -Int.not_le, -Nat.not_lt, -Nat.not_le, -List.length_flatMap, horn_atoms_1.c]
  refine for_w (fun i e m x => e 0 = .fn (.yield ll) [] [] ∧ e 7 = sV cC l ∧ e 8 = .i .i64 l.length ∧ e 9 = .i .i64 i ∧ x0 ≤ x ∧ I i 0 m) l.length ?_ ?_ ?_
  · simp +contextual (disch := omega) [Nat.add_assoc, Int.add_assoc, if_pos, if_neg, -Int.not_lt, -Int.not_le, -Nat.not_lt, -Nat.not_le, -List.length_flatMap]
    exact h0
  · rintro i e m x hi ⟨g1, g2, g3, g4, g5, g6⟩
    have hfi := hf l[i] (List.getElem_mem hi)
    have hal : (atomsC l[i]).length = l[i].frm.length + 1 := by simp [atomsC]
    have hcat := slices_Concat_Atom.a l[i].frm [l[i].to] (by simp; omega)
    have hc1 : sV cA [l[i].to] = .sl (cA l[i].to) 1 := rfl
    rw [hc1] at hcat
    simp +contextual (disch := omega) [Nat.add_assoc, Int.add_assoc, if_pos, if_neg, -Int.not_lt, -Int.not_le, -Nat.not_lt, -Nat.not_le, -List.length_flatMap, horn_atoms_1.b2, g1, g2, g3, g4, hi, ansK hcat]
    have hg : ∀ m', (∀ j, j < x0 → m' j = m j) → I i 0 m' := fun m' h => fr _ _ _ _ g6 h
    refine for_w (fun k e m x => e 0 = .fn (.yield ll) [] [] ∧ e 3 = .i .i64 i ∧ e 7 = sV cC l ∧ e 8 = .i .i64 l.length ∧ e 9 = .i .i64 i ∧ e 20 = sV cA (atomsC l[i]) ∧ e 21 = .i .i64 (atomsC l[i]).length ∧ e 22 = .i .i64 k ∧ x0 ≤ x ∧ I i k m) (atomsC l[i]).length ?_ ?_ ?_
    · simp +contextual (disch := omega) [Nat.add_assoc, Int.add_assoc, if_pos, if_neg, -Int.not_lt, -Int.not_le, -Nat.not_lt, -Nat.not_le, -List.length_flatMap, g1, g2, g3, g4]
      refine ⟨rfl, by simp [atomsC], by omega, hg _ (by simp +contextual (disch := omega) [Nat.add_assoc, Int.add_assoc, if_pos, if_neg, -Int.not_lt, -Int.not_le, -Nat.not_lt, -Nat.not_le, -List.length_flatMap])⟩
    · rintro k e m x hk ⟨q1, q2, q3, q4, q5, q6, q7, q8, q9, q10⟩
      simp +contextual (disch := omega) [Nat.add_assoc, Int.add_assoc, if_pos, if_neg, -Int.not_lt, -Int.not_le, -Nat.not_lt, -Nat.not_le, -List.length_flatMap, horn_atoms_1.b1, q1, q2, q3, q4, q5, q6, q7, q8, hk]
      refine hs i hi k hk _ _ _ (by omega) (fr _ _ _ _ q10 (by simp +contextual (disch := omega) [Nat.add_assoc, Int.add_assoc, if_pos, if_neg, -Int.not_lt, -Int.not_le, -Nat.not_lt, -Nat.not_le, -List.length_flatMap])) ?_ ?_
      · intro m' x' p1 p2
        simp +contextual (disch := omega) [Nat.add_assoc, Int.add_assoc, if_pos, if_neg, -Int.not_lt, -Int.not_le, -Nat.not_lt, -Nat.not_le, -List.length_flatMap, q1, q2, q3, q4, q5, q6, q7, q8]
        exact ⟨by omega, p2⟩
      · intro m' x' p1 p2
        simp +contextual (disch := omega) [Nat.add_assoc, Int.add_assoc, if_pos, if_neg, -Int.not_lt, -Int.not_le, -Nat.not_lt, -Nat.not_le, -List.length_flatMap]
        exact he _ _ (by omega) p2
    · rintro e m x ⟨q1, q2, q3, q4, q5, q6, q7, q8, q9, q10⟩
      simp +contextual (disch := omega) [Nat.add_assoc, Int.add_assoc, if_pos, if_neg, -Int.not_lt, -Int.not_le, -Nat.not_lt, -Nat.not_le, -List.length_flatMap, horn_atoms_1.b1, q1, q2, q3, q4, q5, q6, q7, q8]
      exact ⟨by omega, hr i hi _ q10⟩
  · rintro e m x ⟨g1, g2, g3, g4, g5, g6⟩
    simp +contextual (disch := omega) [Nat.add_assoc, Int.add_assoc, if_pos, if_neg, -Int.not_lt, -Int.not_le, -Nat.not_lt, -Nat.not_le, -List.length_flatMap, horn_atoms_1.b2, g1, g2, g3, g4]
    exact hd _ _ (by omega) g6
theorem horn_atoms.a (l : List C) : Ans ctx horn_atoms.n [sV cC l] (.fn (.func horn_atoms_1.n) [] [.rp [sV cC l]]) := by
  refine ans horn_atoms.f ?_
  simp +contextual (disch := omega) [Nat.add_assoc, Int.add_assoc, if_pos, if_neg, -Int.not_lt, -Int.not_le, -Nat.not_lt, -Nat.not_le, -List.length_flatMap, horn_atoms.c]
theorem horn_Right_1.a (c : C) (h : c.frm.length ≤ 9223372036854775807) : Ans ctx horn_Right_1.n [.ag (cC c)] (.b (manyC c)) := by
  refine ans horn_Right_1.f ?_
  simp +contextual (disch := omega) [Nat.add_assoc, Int.add_assoc, if_pos, if_neg, -Int.not_lt, -Int.not_le, -Nat.not_lt, -Nat.not_le, -List.length_flatMap, horn_Right_1.c, manyC]
theorem okC_atoms (vars : Int) (c : C) : okC vars c = (!manyC c && (atomsC c).all (okA vars)) := rfl
theorem horn_Right.a (vars : Int) (l : List C) (hl : l.length ≤ 9223372036854775807) (hf : ∀ c ∈ l, c.frm.length ≤ 9223372036854775807) : Ans ctx horn_Right.n [.i .i64 vars, sV cC l] (.b (rightC vars l)) := by
  refine ans horn_Right.f ?_
  have hcf := slices_ContainsFunc_Clause.a l horn_Right_1.n [] manyC rfl rfl (by simp) (fun c hc => horn_Right_1.a c (hf c hc)) (by omega)
  by_cases h1 : vars < 1
  · have e : rightC vars l = false := by simp [rightC]; omega
    simp +contextual (disch := omega) [Nat.add_assoc, Int.add_assoc, if_pos, if_neg, -Int.not_lt, -Int.not_le, -Nat.not_lt, -Nat.not_le, -List.length_flatMap, horn_Right.c, e]
  by_cases h2 : 16 < vars
  · have e : rightC vars l = false := by simp [rightC]; omega
    simp +contextual (disch := omega) [Nat.add_assoc, Int.add_assoc, if_pos, if_neg, -Int.not_lt, -Int.not_le, -Nat.not_lt, -Nat.not_le, -List.length_flatMap, horn_Right.c, e]
  by_cases h3 : 60 < l.length
  · have e : rightC vars l = false := by simp [rightC]; omega
    simp +contextual (disch := omega) [Nat.add_assoc, Int.add_assoc, if_pos, if_neg, -Int.not_lt, -Int.not_le, -Nat.not_lt, -Nat.not_le, -List.length_flatMap, horn_Right.c, e]
  have er : rightC vars l = l.all (okC vars) := by simp [rightC]; omega
  cases hm : l.any manyC with
  | true =>
    have e : rightC vars l = false := by
      rw [er, List.all_eq_false]
      obtain ⟨c, c1, c2⟩ := List.any_eq_true.1 hm
      exact ⟨c, c1, by simp [okC, c2]⟩
    rw [hm] at hcf
    simp +contextual (disch := omega) [Nat.add_assoc, Int.add_assoc, if_pos, if_neg, -Int.not_lt, -Int.not_le, -Nat.not_lt, -Nat.not_le, -List.length_flatMap, horn_Right.c, e, ansK hcf]
  | false =>
    have e2 : l.all (okC vars) = l.all fun c => (atomsC c).all (okA vars) := by
      rw [Bool.eq_iff_iff]
      simp only [List.all_eq_true]
      have hm' := List.any_eq_false.1 hm
      exact ⟨fun h c hc => by have := h c hc; rw [okC_atoms] at this; simp at this; simpa using this.2, fun h c hc => by rw [okC_atoms]; have := hm' c hc; simp at this; simpa [this] using h c hc⟩
    have hs6 : ∀ c ∈ l, c.frm.length ≤ 100000 := fun c hc => by
      have := List.any_eq_false.1 hm c hc
      simp [manyC] at this
      omega
    rw [hm] at hcf
    simp +contextual (disch := omega) [Nat.add_assoc, Int.add_assoc, if_pos, if_neg, -Int.not_lt, -Int.not_le, -Nat.not_lt, -Nat.not_le, -List.length_flatMap, horn_Right.c, ansK hcf, ansK (horn_atoms.a l)]
    rw [er, e2]
    refine gen_e (fun E => E 2 = .p 0 0 ∧ E 4 = .p 1 0 ∧ E 25 = .fn (.func horn_atoms_1.n) [] [.rp [sV cC l]]) (by simp +contextual (disch := omega) [Nat.add_assoc, Int.add_assoc, if_pos, if_neg, -Int.not_lt, -Int.not_le, -Nat.not_lt, -Nat.not_le, -List.length_flatMap]) ?_
    rintro E ⟨E1, E2, E3⟩
    refine rf_g fun A B hA hB => ?_
    simp +contextual (disch := omega) [Nat.add_assoc, Int.add_assoc, if_pos, if_neg, -Int.not_lt, -Int.not_le, -Nat.not_lt, -Nat.not_le, -List.length_flatMap, E3]
    refine atoms_w (by omega) hs6 (fun i k m => m 19 = some .dfr ∧ m 20 = some (.loop ⟨E, [26, 27], A, B, .ready, none⟩) ∧ m 0 = some (.cells [.i .i64 vars] false) ∧ m 1 = some (.cells [.b false] false) ∧
        (l.take i).all (fun c => (atomsC c).all (okA vars)) = true ∧ ∀ (hi : i < l.length), ((atomsC l[i]).take k).all (okA vars) = true)
      (fun m => m 19 = some .dfr ∧ m 20 = some (.loop ⟨E, [26, 27], A, B, .done, some .ret⟩) ∧ m 1 = some (.cells [.b false] false) ∧ l.all (fun c => (atomsC c).all (okA vars)) = false) ?_ ?_ ?_ ?_ ?_ ?_
    · rintro i k m m' ⟨q1, q2, q3, q4, q5, q6⟩ h
      exact ⟨(h _ (by omega)).trans q1, (h _ (by omega)).trans q2, (h _ (by omega)).trans q3, (h _ (by omega)).trans q4, q5, q6⟩
    · simp +contextual (disch := omega) [Nat.add_assoc, Int.add_assoc, if_pos, if_neg, -Int.not_lt, -Int.not_le, -Nat.not_lt, -Nat.not_le, -List.length_flatMap]
    · rintro i hi k hk m x K' hx ⟨q1, q2, q3, q4, q5, q6⟩ ht hf'
      have q6 := q6 hi
      refine yield_w q2 rfl rfl ?_
      generalize ha : (atomsC l[i])[k] = a
      cases hok : okA vars a with
      | true =>
        have hok' := hok
        simp only [okA, Bool.and_eq_true, decide_eq_true_eq] at hok'
        refine w_as hA ?_
        simp +contextual (disch := omega) [Nat.add_assoc, Int.add_assoc, if_pos, if_neg, -Int.not_lt, -Int.not_le, -Nat.not_lt, -Nat.not_le, -List.length_flatMap, horn_Right.a1, q2]
        refine w_as hB ?_
        simp +contextual (disch := omega) [Nat.add_assoc, Int.add_assoc, if_pos, if_neg, -Int.not_lt, -Int.not_le, -Nat.not_lt, -Nat.not_le, -List.length_flatMap, horn_Right.b2, q1, q2, q3, q4, E1, E2]
        refine ht _ _ (by omega) ?_
        simp +contextual (disch := omega) [Nat.add_assoc, Int.add_assoc, if_pos, if_neg, -Int.not_lt, -Int.not_le, -Nat.not_lt, -Nat.not_le, -List.length_flatMap, q1, q2, q3, q4, q5, take_all hk q6 (ha ▸ hok)]
      | false =>
        have hok' : a.var < 0 ∨ (0 ≤ a.var ∧ vars ≤ a.var) ∨ (0 ≤ a.var ∧ a.var < vars ∧ a.off < 0) ∨ (0 ≤ a.var ∧ a.var < vars ∧ 0 ≤ a.off ∧ 1000 < a.off) := by
          simp [okA] at hok; omega
        have hbad : l.all (fun c => (atomsC c).all (okA vars)) = false := by
          rw [List.all_eq_false]
          refine ⟨l[i], List.getElem_mem hi, ?_⟩
          have : (atomsC l[i]).all (okA vars) = false := List.all_eq_false.2 ⟨_, List.getElem_mem hk, by rw [ha, hok]; simp⟩
          simp [this]
        refine w_as hA ?_
        simp +contextual (disch := omega) [Nat.add_assoc, Int.add_assoc, if_pos, if_neg, -Int.not_lt, -Int.not_le, -Nat.not_lt, -Nat.not_le, -List.length_flatMap, horn_Right.a1, q2]
        refine w_as hB ?_
        rcases hok' with h | h | h | h
        all_goals (simp +contextual (disch := omega) [Nat.add_assoc, Int.add_assoc, if_pos, if_neg, -Int.not_lt, -Int.not_le, -Nat.not_lt, -Nat.not_le, -List.length_flatMap, horn_Right.b2, q1, q2, q3, q4, E1, E2])
        all_goals (refine hf' _ _ (by omega) ?_; simp +contextual (disch := omega) [Nat.add_assoc, Int.add_assoc, if_pos, if_neg, -Int.not_lt, -Int.not_le, -Nat.not_lt, -Nat.not_le, -List.length_flatMap, q1, hbad])
    · rintro i hi m ⟨q1, q2, q3, q4, q5, q6⟩
      have q6 := q6 hi
      rw [List.take_length] at q6
      exact ⟨q1, q2, q3, q4, take_all hi q5 q6, fun h => by simp⟩
    · rintro m' x' hx ⟨q1, q2, q3, q4, q5, q6⟩
      rw [List.take_length] at q5
      simp +contextual (disch := omega) [Nat.add_assoc, Int.add_assoc, if_pos, if_neg, -Int.not_lt, -Int.not_le, -Nat.not_lt, -Nat.not_le, -List.length_flatMap, q1, q2, q3, q4, E2, q5]
    · rintro m' x' hx ⟨q1, q2, q3, q4⟩
      simp +contextual (disch := omega) [Nat.add_assoc, Int.add_assoc, if_pos, if_neg, -Int.not_lt, -Int.not_le, -Nat.not_lt, -Nat.not_le, -List.length_flatMap, q1, q2, q3, q4, E2]
end Pi


set_option linter.unusedSimpArgs false
set_option linter.unusedVariables false
namespace Pi
theorem ref08_atom.a (a : A) (vars : Int) : Ans ctx ref08_atom.n [.ag (cA a), .i .i64 vars] (.b (okA vars a)) := by
  refine ans ref08_atom.f ?_
  unfold okA
  simp +contextual (disch := omega) [Nat.add_assoc, Int.add_assoc, if_pos, if_neg, -Int.not_lt, -Int.not_le, -Nat.not_lt, -Nat.not_le, -List.length_flatMap, ref08_atom.c]
theorem ref08_Right.a (vars : Int) (l : List C) (hl : l.length ≤ 9223372036854775807) (hf : ∀ c ∈ l, c.frm.length ≤ 9223372036854775807) : Ans ctx ref08_Right.n [.i .i64 vars, sV cC l] (.b (rightC vars l)) := by
  refine ans ref08_Right.f ?_
  by_cases h1 : vars < 1
  · have e : rightC vars l = false := by simp [rightC]; omega
    simp +contextual (disch := omega) [Nat.add_assoc, Int.add_assoc, if_pos, if_neg, -Int.not_lt, -Int.not_le, -Nat.not_lt, -Nat.not_le, -List.length_flatMap, ref08_Right.c, e]
  by_cases h2 : 16 < vars
  · have e : rightC vars l = false := by simp [rightC]; omega
    simp +contextual (disch := omega) [Nat.add_assoc, Int.add_assoc, if_pos, if_neg, -Int.not_lt, -Int.not_le, -Nat.not_lt, -Nat.not_le, -List.length_flatMap, ref08_Right.c, e]
  by_cases h3 : 60 < l.length
  · have e : rightC vars l = false := by simp [rightC]; omega
    simp +contextual (disch := omega) [Nat.add_assoc, Int.add_assoc, if_pos, if_neg, -Int.not_lt, -Int.not_le, -Nat.not_lt, -Nat.not_le, -List.length_flatMap, ref08_Right.c, e]
  have er : rightC vars l = l.all (okC vars) := by simp [rightC]; omega
  rw [er]
  simp +contextual (disch := omega) [Nat.add_assoc, Int.add_assoc, if_pos, if_neg, -Int.not_lt, -Int.not_le, -Nat.not_lt, -Nat.not_le, -List.length_flatMap, ref08_Right.c]
  refine for_w (fun i e m x => e 0 = .i .i64 vars ∧ e 1 = sV cC l ∧ e 5 = .i .i64 i ∧ (l.take i).all (okC vars) = true) l.length ?_ ?_ ?_
  · simp +contextual (disch := omega) [Nat.add_assoc, Int.add_assoc, if_pos, if_neg, -Int.not_lt, -Int.not_le, -Nat.not_lt, -Nat.not_le, -List.length_flatMap]
  · rintro i e m x hi ⟨g1, g2, g3, g4⟩
    have hfi := hf l[i] (List.getElem_mem hi)
    have bad : okC vars l[i] = false → l.all (okC vars) = false := all_at hi
    generalize hc : l[i] = c at hfi bad
    cases ht : okA vars c.to with
    | false =>
      have := bad (by simp [okC, ht])
      simp +contextual (disch := omega) [Nat.add_assoc, Int.add_assoc, if_pos, if_neg, -Int.not_lt, -Int.not_le, -Nat.not_lt, -Nat.not_le, -List.length_flatMap, ref08_Right.b2, g1, g2, g3, hi, hc, ansK (ref08_atom.a _ _), ht, this]
    | true =>
      by_cases hm : c.frm.length < 1
      · have := bad (by simp [okC, manyC, hm]; omega)
        simp +contextual (disch := omega) [Nat.add_assoc, Int.add_assoc, if_pos, if_neg, -Int.not_lt, -Int.not_le, -Nat.not_lt, -Nat.not_le, -List.length_flatMap, ref08_Right.b2, g1, g2, g3, hi, hc, ansK (ref08_atom.a _ _), ht, this]
      by_cases hm2 : 6 < c.frm.length
      · have := bad (by simp [okC, manyC]; omega)
        simp +contextual (disch := omega) [Nat.add_assoc, Int.add_assoc, if_pos, if_neg, -Int.not_lt, -Int.not_le, -Nat.not_lt, -Nat.not_le, -List.length_flatMap, ref08_Right.b2, g1, g2, g3, hi, hc, ansK (ref08_atom.a _ _), ht, this]
      simp +contextual (disch := omega) [Nat.add_assoc, Int.add_assoc, if_pos, if_neg, -Int.not_lt, -Int.not_le, -Nat.not_lt, -Nat.not_le, -List.length_flatMap, ref08_Right.b2, g1, g2, g3, hi, hc, ansK (ref08_atom.a _ _), ht]
      refine for_w (fun k e m x => e 0 = .i .i64 vars ∧ e 1 = sV cC l ∧ e 5 = .i .i64 i ∧ e 6 = .i .i64 k ∧ (c.frm.take k).all (okA vars) = true) c.frm.length ?_ ?_ ?_
      · simp +contextual (disch := omega) [Nat.add_assoc, Int.add_assoc, if_pos, if_neg, -Int.not_lt, -Int.not_le, -Nat.not_lt, -Nat.not_le, -List.length_flatMap, g1, g2, g3]
      · rintro k e m x hk ⟨q1, q2, q3, q4, q5⟩
        cases ha : okA vars c.frm[k] with
        | true => simp +contextual (disch := omega) [Nat.add_assoc, Int.add_assoc, if_pos, if_neg, -Int.not_lt, -Int.not_le, -Nat.not_lt, -Nat.not_le, -List.length_flatMap, ref08_Right.b1, q1, q2, q3, q4, hi, hc, hk, ansK (ref08_atom.a _ _), ha, take_all hk q5 ha]
        | false =>
          have := bad (by
            have : c.frm.all (okA vars) = false := all_at hk ha
            simp [okC, this])
          simp +contextual (disch := omega) [Nat.add_assoc, Int.add_assoc, if_pos, if_neg, -Int.not_lt, -Int.not_le, -Nat.not_lt, -Nat.not_le, -List.length_flatMap, ref08_Right.b1, q1, q2, q3, q4, hi, hc, hk, ansK (ref08_atom.a _ _), ha, this]
      · rintro e m x ⟨q1, q2, q3, q4, q5⟩
        rw [List.take_length] at q5
        have hok : okC vars l[i] = true := by rw [hc]; simp [okC, manyC, q5, ht]; omega
        have := take_all hi g4 hok
        simp +contextual (disch := omega) [Nat.add_assoc, Int.add_assoc, if_pos, if_neg, -Int.not_lt, -Int.not_le, -Nat.not_lt, -Nat.not_le, -List.length_flatMap, ref08_Right.b1, q1, q2, q3, q4, hi, hc]
        simpa using this
  · rintro e m x ⟨g1, g2, g3, g4⟩
    rw [List.take_length] at g4
    simp +contextual (disch := omega) [Nat.add_assoc, Int.add_assoc, if_pos, if_neg, -Int.not_lt, -Int.not_le, -Nat.not_lt, -Nat.not_le, -List.length_flatMap, ref08_Right.b2, g1, g2, g3, g4]
/-- The first atom that is the least, by a model. -/
def minA (f : A → Int) (l : List A) : A := l.foldl (fun m a => if f a < f m then a else m) (l.getD 0 default)
theorem minA_f (f : A → Int) (l : List A) : f (minA f l) = (l.map f).foldl min (f (l.getD 0 default)) := by
  unfold minA
  generalize l.getD 0 default = b
  induction l generalizing b with
  | nil => rfl
  | cons a r ih =>
    simp only [List.foldl_cons, List.map_cons]
    rw [ih]
    congr 1
    split <;> omega
theorem minA_mem (f : A → Int) (l : List A) (h : l ≠ []) : minA f l ∈ l := by
  have key : ∀ (r : List A) (b : A), r.foldl (fun m a => if f a < f m then a else m) b = b ∨ r.foldl (fun m a => if f a < f m then a else m) b ∈ r := by
    intro r
    induction r with
    | nil => intro b; exact .inl rfl
    | cons a r ih =>
      intro b
      simp only [List.foldl_cons]
      rcases ih (if f a < f b then a else b) with h1 | h1
      · rw [h1]
        split
        · exact .inr (by simp)
        · exact .inl rfl
      · exact .inr (by simp [h1])
  cases l with
  | nil => exact absurd rfl h
  | cons a r =>
    rcases key (a :: r) a with h1 | h1
    · unfold minA; simp only [List.getD_cons_zero]; rw [h1]; simp
    · unfold minA; simp only [List.getD_cons_zero]; exact h1
theorem slices_MinFunc_Atom.a (l : List A) (g : Nat) (caps : List V) (f : A → Int) (hg : (ctx.opn g || ctx.frz g) = false) (hpr : ctx.prim g = none) (hc : ∀ D, frzL D caps = some (caps, [])) (h : ∀ a ∈ l, ∀ b ∈ l, Ans ctx g (.ag (cA a) :: .ag (cA b) :: caps) (.i .i64 (f a - f b)))
    (hne : l ≠ []) (hl : l.length ≤ 1000000) : Ans ctx slices_MinFunc_Atom.n [sV cA l, .fn (.func g) [] caps] (.ag (cA (minA f l))) := by
  refine ans slices_MinFunc_Atom.f ?_
  have h0 : 0 < l.length := List.length_pos_iff.2 hne
  have e0 : l.getD 0 default = l[0] := by simp [h0]
  simp +contextual (disch := omega) [Nat.add_assoc, Int.add_assoc, if_pos, if_neg, -Int.not_lt, -Int.not_le, -Nat.not_lt, -Nat.not_le, -List.length_flatMap, slices_MinFunc_Atom.c, h0]
  have fo : ∀ i (hi : i < l.length), (l.take (i + 1)).foldl (fun m a => if f a < f m then a else m) l[0] = (if f l[i] < f ((l.take i).foldl (fun m a => if f a < f m then a else m) l[0]) then l[i] else (l.take i).foldl (fun m a => if f a < f m then a else m) l[0]) := fun i hi => take_fold hi
  refine for_w (fun i e m x => e 0 = sV cA l ∧ e 1 = .fn (.func g) [] caps ∧ e 4 = .p 0 0 ∧ e 5 = .p 7 0 ∧ m 0 = some (.cells [.i .i64 0, .i .i64 0] false) ∧ e 6 = .i .i64 (i + 1 : Nat) ∧ ∃ b, m 7 = some (.cells (cA b) false) ∧ b ∈ l ∧ (l.take (i + 1)).foldl (fun m a => if f a < f m then a else m) l[0] = b) (l.length - 1) ?_ ?_ ?_
  · have e1 : l.take 1 = [l[0]] := by
      cases l with
      | nil => exact absurd rfl hne
      | cons a r => rfl
    simp +contextual (disch := omega) [Nat.add_assoc, Int.add_assoc, if_pos, if_neg, -Int.not_lt, -Int.not_le, -Nat.not_lt, -Nat.not_le, -List.length_flatMap, e1]
  · rintro i e m x hi ⟨g1, g2, g3, g4, g5, g6, b, g7, g8, g9⟩
    have hi' : i + 1 < l.length := by omega
    have hk := h l[i + 1] (List.getElem_mem hi') b g8
    have e2 : (l.take (i + 2)).foldl (fun m a => if f a < f m then a else m) l[0] = _ := fo (i + 1) hi'
    rw [g9] at e2
    have hi3 : i + 1 < 1000000 := by omega
    by_cases hlt : f l[i + 1] < f b
    · rw [if_pos hlt] at e2
      simp +contextual (disch := omega) [Nat.add_assoc, Int.add_assoc, if_pos, if_neg, -Int.not_lt, -Int.not_le, -Nat.not_lt, -Nat.not_le, -List.length_flatMap, slices_MinFunc_Atom.b1, g1, g2, g3, g4, g5, g6, g7, hi', CallX_cl (C := ctx) (g := g) hpr (orF hg).1 (orF hg).2, hc, ansK hk]
      rw [e2]; exact ⟨rfl, List.getElem_mem hi'⟩
    · rw [if_neg hlt] at e2
      simp +contextual (disch := omega) [Nat.add_assoc, Int.add_assoc, if_pos, if_neg, -Int.not_lt, -Int.not_le, -Nat.not_lt, -Nat.not_le, -List.length_flatMap, slices_MinFunc_Atom.b1, g1, g2, g3, g4, g5, g6, g7, hi', CallX_cl (C := ctx) (g := g) hpr (orF hg).1 (orF hg).2, hc, ansK hk]
      rw [e2]; exact ⟨rfl, g8⟩
  · rintro e m x ⟨g1, g2, g3, g4, g5, g6, b, g7, g8, g9⟩
    have e3 : l.length - 1 + 1 = l.length := by omega
    rw [e3, List.take_length] at g9
    have e4 : minA f l = b := by unfold minA; rw [e0]; exact g9
    rw [e3] at g6
    simp +contextual (disch := omega) [Nat.add_assoc, Int.add_assoc, if_pos, if_neg, -Int.not_lt, -Int.not_le, -Nat.not_lt, -Nat.not_le, -List.length_flatMap, slices_MinFunc_Atom.b1, g1, g2, g3, g4, g5, g6, g7, e4]
/-- Right clauses, of values from 0 to 2^40. -/
theorem atS_bd {vars : Int} {model : List Int} (hm : Nats model) {a : A} (h : 0 ≤ a.var ∧ a.var < vars ∧ 0 ≤ a.off ∧ a.off ≤ 1000) : -1000 ≤ atS model a ∧ atS model a ≤ 1099511627776 := by
  have := hm.getD a.var.toNat
  unfold atS
  omega
theorem horn_Asks_1.a {model : List Int} (hm : Nats model) {a b : A} (ha : 0 ≤ a.var ∧ a.var < model.length ∧ 0 ≤ a.off ∧ a.off ≤ 1000) (hb : 0 ≤ b.var ∧ b.var < model.length ∧ 0 ≤ b.off ∧ b.off ≤ 1000) :
    Ans ctx horn_Asks_1.n [.ag (cA a), .ag (cA b), .rp [sV cI model]] (.i .i64 (atS model a - atS model b)) := by
  refine ans horn_Asks_1.f ?_
  have e1 := getD_get model 0 (by omega : a.var.toNat < model.length)
  have e2 := getD_get model 0 (by omega : b.var.toNat < model.length)
  have h1 := hm.getD a.var.toNat
  have h2 := hm.getD b.var.toNat
  unfold atS
  rw [e1] at h1 ⊢
  rw [e2] at h2 ⊢
  simp +contextual (disch := omega) [Nat.add_assoc, Int.add_assoc, if_pos, if_neg, -Int.not_lt, -Int.not_le, -Nat.not_lt, -Nat.not_le, -List.length_flatMap, horn_Asks_1.c]
theorem minS_ok {model : List Int} (l : List A) (hne : l ≠ []) : minS model l = atS model (minA (atS model) l) := by rw [minA_f (atS model) l]; rfl
theorem horn_Asks.a {model : List Int} (hm : Nats model) {c : C} (hc : okC model.length c = true) (hl : model.length ≤ 1000) : Ans ctx horn_Asks.n [.ag (cC c), sV cI model] (.i .i64 (asksS model c)) := by
  refine ans horn_Asks.f ?_
  have hne := okC_ne hc
  have hlen : c.frm.length ≤ 6 := by
    have h := hc
    simp [okC, manyC] at h
    omega
  have hmn := slices_MinFunc_Atom.a c.frm horn_Asks_1.n [.rp [sV cI model]] (atS model) rfl rfl (by simp) (fun a ha b hb => horn_Asks_1.a hm (okC_frm hc ha) (okC_frm hc hb)) hne (by omega)
  have hb := okC_frm hc (minA_mem (atS model) c.frm hne)
  have hto := okC_to hc
  have hbd := atS_bd hm hb
  have e0 : asksS model c = atS model (minA (atS model) c.frm) + c.to.off := by unfold asksS; rw [minS_ok _ hne]
  rw [e0]
  generalize minA (atS model) c.frm = b at *
  have e1 := getD_get model 0 (by omega : b.var.toNat < model.length)
  have h1 := hm.getD b.var.toNat
  unfold atS at hbd ⊢
  rw [e1] at h1 hbd ⊢
  simp +contextual (disch := omega) [Nat.add_assoc, Int.add_assoc, if_pos, if_neg, -Int.not_lt, -Int.not_le, -Nat.not_lt, -Nat.not_le, -List.length_flatMap, horn_Asks.c, ansK hmn]
theorem ref08_Asks.a {model : List Int} (hm : Nats model) {c : C} (hc : okC model.length c = true) (hl : model.length ≤ 1000) : Ans ctx ref08_Asks.n [.ag (cC c), sV cI model] (.i .i64 (asksS model c)) := by
  refine ans ref08_Asks.f ?_
  have hne := okC_ne hc
  have h0 : 0 < c.frm.length := List.length_pos_iff.2 hne
  have hlen : c.frm.length ≤ 6 := by
    have h := hc
    simp [okC, manyC] at h
    omega
  have hto := okC_to hc
  have hat : ∀ (i : Nat) (hi : i < c.frm.length), 0 ≤ c.frm[i].var ∧ c.frm[i].var < model.length ∧ 0 ≤ c.frm[i].off ∧ c.frm[i].off ≤ 1000 := fun i hi => okC_frm hc (List.getElem_mem hi)
  have h1 := hat 0 h0
  have e1 := getD_get model 0 (by omega : c.frm[0].var.toNat < model.length)
  have b1 := hm.getD c.frm[0].var.toNat
  have a1 : atS model c.frm[0] = model.getD c.frm[0].var.toNat 0 - c.frm[0].off := rfl
  have e0 : c.frm.getD 0 default = c.frm[0] := by simp [h0]
  have e2 : minS model c.frm = (c.frm.map (atS model)).foldl min (atS model c.frm[0]) := by unfold minS; rw [e0]
  unfold asksS
  rw [e2]
  have bd0 := atS_bd hm h1
  rw [e1] at b1 a1
  simp +contextual (disch := omega) [Nat.add_assoc, Int.add_assoc, if_pos, if_neg, -Int.not_lt, -Int.not_le, -Nat.not_lt, -Nat.not_le, -List.length_flatMap, ref08_Asks.c, h0]
  refine for_w (fun i e m x => e 1 = sV cI model ∧ e 2 = .p 0 0 ∧ m 0 = some (.cells (cC c) false) ∧ e 6 = .i .i64 i ∧ ∃ n, e 5 = .i .i64 n ∧ (-1000 ≤ n ∧ n ≤ 1099511627776) ∧ ((c.frm.take i).map (atS model)).foldl min (atS model c.frm[0]) = n) c.frm.length ?_ ?_ ?_
  · simp +contextual (disch := omega) [Nat.add_assoc, Int.add_assoc, if_pos, if_neg, -Int.not_lt, -Int.not_le, -Nat.not_lt, -Nat.not_le, -List.length_flatMap, a1]
    omega
  · rintro i e m x hi ⟨g1, g2, g3, g4, n, g5, g6, g7⟩
    have q1 := hat i hi
    have q2 := getD_get model 0 (by omega : c.frm[i].var.toNat < model.length)
    have q3 := hm.getD c.frm[i].var.toNat
    have q4 : ((c.frm.take (i + 1)).map (atS model)).foldl min (atS model c.frm[0]) = min n (model.getD c.frm[i].var.toNat 0 - c.frm[i].off) := by
      rw [List.take_succ_eq_append_getElem hi, List.map_append, List.foldl_append, g7]; rfl
    rw [q4]
    rw [q2] at q3 ⊢
    simp +contextual (disch := omega) [Nat.add_assoc, Int.add_assoc, if_pos, if_neg, -Int.not_lt, -Int.not_le, -Nat.not_lt, -Nat.not_le, -List.length_flatMap, ref08_Asks.b1, g1, g2, g3, g4, g5, hi]
    omega
  · rintro e m x ⟨g1, g2, g3, g4, n, g5, g6, g7⟩
    rw [List.take_length] at g7
    rw [g7]
    simp +contextual (disch := omega) [Nat.add_assoc, Int.add_assoc, if_pos, if_neg, -Int.not_lt, -Int.not_le, -Nat.not_lt, -Nat.not_le, -List.length_flatMap, ref08_Asks.b1, g1, g2, g3, g4, g5]
end Pi


set_option linter.unusedSimpArgs false
set_option linter.unusedVariables false
namespace Pi
theorem ref08_Ints.a (a b : List Int) (ha : a.length ≤ 1000000) : Ans ctx ref08_Ints.n [sV cI a, sV cI b] (.b (decide (a = b))) := by
  refine ans ref08_Ints.f ?_
  by_cases hl : a.length = b.length
  · simp +contextual (disch := omega) [Nat.add_assoc, Int.add_assoc, if_pos, if_neg, -Int.not_lt, -Int.not_le, -Nat.not_lt, -Nat.not_le, -List.length_flatMap, ref08_Ints.c]
    refine for_w (fun i e m x => e 0 = sV cI a ∧ e 1 = sV cI b ∧ e 5 = .i .i64 i ∧ a.take i = b.take i) a.length ?_ ?_ ?_
    · simp +contextual (disch := omega) [Nat.add_assoc, Int.add_assoc, if_pos, if_neg, -Int.not_lt, -Int.not_le, -Nat.not_lt, -Nat.not_le, -List.length_flatMap]
    · rintro i e m x hi ⟨g1, g2, g3, g4⟩
      have hi' : i < b.length := by omega
      by_cases he : a[i] = b[i]
      · have : a.take (i + 1) = b.take (i + 1) := by rw [List.take_succ_eq_append_getElem hi, List.take_succ_eq_append_getElem hi', g4, he]
        simp +contextual (disch := omega) [Nat.add_assoc, Int.add_assoc, if_pos, if_neg, -Int.not_lt, -Int.not_le, -Nat.not_lt, -Nat.not_le, -List.length_flatMap, ref08_Ints.b1, g1, g2, g3, hi, hi', he, this]
      · have : a ≠ b := fun h => he (by subst h; rfl)
        simp +contextual (disch := omega) [Nat.add_assoc, Int.add_assoc, if_pos, if_neg, -Int.not_lt, -Int.not_le, -Nat.not_lt, -Nat.not_le, -List.length_flatMap, ref08_Ints.b1, g1, g2, g3, hi, hi', he, this]
    · rintro e m x ⟨g1, g2, g3, g4⟩
      rw [List.take_length, hl, List.take_length] at g4
      simp +contextual (disch := omega) [Nat.add_assoc, Int.add_assoc, if_pos, if_neg, -Int.not_lt, -Int.not_le, -Nat.not_lt, -Nat.not_le, -List.length_flatMap, ref08_Ints.b1, g1, g2, g3, g4]
  · have : a ≠ b := fun h => hl (by rw [h])
    simp +contextual (disch := omega) [Nat.add_assoc, Int.add_assoc, if_pos, if_neg, -Int.not_lt, -Int.not_le, -Nat.not_lt, -Nat.not_le, -List.length_flatMap, ref08_Ints.c, this]
theorem right_ok {vars : Int} {l : List C} (h : rightC vars l = true) : 1 ≤ vars ∧ vars ≤ 16 ∧ l.length ≤ 60 ∧ ∀ c ∈ l, okC vars c = true := by
  simp [rightC] at h
  exact ⟨by omega, by omega, by omega, h.2⟩
end Pi


set_option linter.unusedSimpArgs false
set_option linter.unusedVariables false
namespace Pi
def mostV (vars : Int) (l : List C) : V := if rightC vars l = true then .tu [.i .i64 (mostS l), .i .i64 0] else .tu [.i .i64 0, .i .i64 1]
def mostF (c : C) (n : Int) (a : A) : Int := max n (c.to.off - a.off)
theorem mostS_eq (l : List C) : mostS l = l.foldl (fun n c => c.frm.foldl (mostF c) n) 0 := rfl
theorem mostS_take {l : List C} {i : Nat} (hi : i < l.length) : mostS (l.take (i + 1)) = l[i].frm.foldl (mostF l[i]) (mostS (l.take i)) := by
  rw [mostS_eq, take_fold hi]; rfl
theorem fold_bd {c : C} {l : List A} (hc : ∀ a ∈ l, -1000 ≤ c.to.off - a.off ∧ c.to.off - a.off ≤ 1000) : ∀ n : Int, 0 ≤ n → n ≤ 1000 → 0 ≤ l.foldl (mostF c) n ∧ l.foldl (mostF c) n ≤ 1000 := by
  intro n h0 h1
  refine fold_inv (P := fun n : Int => 0 ≤ n ∧ n ≤ 1000) (fun b a ha hb => ?_) ⟨h0, h1⟩
  have := hc a ha
  unfold mostF
  omega
theorem mostS_bd {vars : Int} {l : List C} (h : ∀ c ∈ l, okC vars c = true) : 0 ≤ mostS l ∧ mostS l ≤ 1000 := by
  rw [mostS_eq]
  refine fold_inv (P := fun n : Int => 0 ≤ n ∧ n ≤ 1000) (fun b c hc hb => fold_bd (fun a ha => ?_) b hb.1 hb.2) ⟨by omega, by omega⟩
  have h1 := okC_to (h c hc)
  have h2 := okC_frm (h c hc) ha
  omega
def curM (l : List C) (i k : Nat) : Int := match l[i]? with | some c => ((atomsC c).take k).foldl (mostF c) (mostS (l.take i)) | none => mostS (l.take i)
theorem curM_z (l : List C) (i : Nat) : curM l i 0 = mostS (l.take i) := by
  unfold curM
  cases l[i]? <;> simp
theorem curM_s {l : List C} {i k : Nat} (hi : i < l.length) (hk : k < (atomsC l[i]).length) : curM l i (k + 1) = max (curM l i k) (l[i].to.off - (atomsC l[i])[k].off) := by
  unfold curM
  rw [List.getElem?_eq_getElem hi]
  simp only
  rw [take_fold hk]; rfl
theorem curM_e {vars : Int} {l : List C} {i : Nat} (hi : i < l.length) (h : ∀ c ∈ l, okC vars c = true) : curM l i (atomsC l[i]).length = mostS (l.take (i + 1)) := by
  unfold curM
  rw [List.getElem?_eq_getElem hi]
  simp only
  rw [List.take_length, mostS_take hi, atomsC, List.foldl_append]
  have h1 := fold_bd (c := l[i]) (l := l[i].frm) (fun a ha => by
    have h1 := okC_to (h _ (List.getElem_mem hi))
    have h2 := okC_frm (h _ (List.getElem_mem hi)) ha
    omega) (mostS (l.take i)) (mostS_nonneg _) (mostS_bd (fun c hc => h c (List.mem_of_mem_take hc))).2
  simp only [List.foldl_cons, List.foldl_nil]
  generalize l[i].frm.foldl (mostF l[i]) (mostS (l.take i)) = n at *
  unfold mostF
  omega
theorem atoms_ok {vars : Int} {c : C} (h : okC vars c = true) {k : Nat} (hk : k < (atomsC c).length) : 0 ≤ (atomsC c)[k].var ∧ (atomsC c)[k].var < vars ∧ 0 ≤ (atomsC c)[k].off ∧ (atomsC c)[k].off ≤ 1000 := by
  have hm : (atomsC c)[k] ∈ atomsC c := List.getElem_mem hk
  generalize (atomsC c)[k] = a at *
  rcases List.mem_append.1 hm with hm | hm
  · exact okC_frm h hm
  · rw [List.mem_singleton.1 hm]; exact okC_to h
theorem curM_bd {vars : Int} {l : List C} (h : ∀ c ∈ l, okC vars c = true) (i k : Nat) : 0 ≤ curM l i k ∧ curM l i k ≤ 1000 := by
  have h0 := mostS_bd (vars := vars) (l := l.take i) (fun c hc => h c (List.mem_of_mem_take hc))
  unfold curM
  cases hc : l[i]? with
  | none => exact h0
  | some c =>
    have hok := h c (List.mem_of_getElem? hc)
    refine fold_bd (fun a ha => ?_) _ h0.1 h0.2
    have ha := List.mem_of_mem_take ha
    have h1 := okC_to hok
    rcases List.mem_append.1 ha with hm | hm
    · have := okC_frm hok hm; omega
    · rw [List.mem_singleton.1 hm]; omega
theorem horn_Most.a (vars : Int) (l : List C) (hl : l.length ≤ 9223372036854775807) (hf : ∀ c ∈ l, c.frm.length ≤ 9223372036854775807) : Ans ctx horn_Most.n [.i .i64 vars, sV cC l] (mostV vars l) := by
  refine ans horn_Most.f ?_
  have hr := horn_Right.a vars l hl hf
  unfold mostV
  cases h1 : rightC vars l with
  | false => simp +contextual (disch := omega) [Nat.add_assoc, Int.add_assoc, if_pos, if_neg, -Int.not_lt, -Int.not_le, -Nat.not_lt, -Nat.not_le, -List.length_flatMap, horn_Most.c, ansK hr, h1]
  | true =>
    obtain ⟨r1, r2, r3, r4⟩ := right_ok h1
    have hs6 : ∀ c ∈ l, c.frm.length ≤ 100000 := fun c hc => Nat.le_trans (okC_six (r4 c hc)) (by omega)
    simp +contextual (disch := omega) [Nat.add_assoc, Int.add_assoc, if_pos, if_neg, -Int.not_lt, -Int.not_le, -Nat.not_lt, -Nat.not_le, -List.length_flatMap, horn_Most.c, ansK hr, h1, ansK (horn_atoms.a l)]
    refine gen_e (fun E => E 3 = .p 0 0 ∧ E 4 = .p 1 0 ∧ E 5 = .i .i64 0 ∧ E 13 = .fn (.func horn_atoms_1.n) [] [.rp [sV cC l]]) (by simp +contextual (disch := omega) [Nat.add_assoc, Int.add_assoc, if_pos, if_neg, -Int.not_lt, -Int.not_le, -Nat.not_lt, -Nat.not_le, -List.length_flatMap]) ?_
    rintro E ⟨E1, E2, E3, E4⟩
    refine rf_g fun A B hA hB => ?_
    simp +contextual (disch := omega) [Nat.add_assoc, Int.add_assoc, if_pos, if_neg, -Int.not_lt, -Int.not_le, -Nat.not_lt, -Nat.not_le, -List.length_flatMap, E4]
    refine atoms_w (by omega) hs6 (fun i k m => m 7 = some .dfr ∧ m 8 = some (.loop ⟨E, [14, 15], A, B, .ready, none⟩) ∧ m 0 = some (.cells [sV cC l] false) ∧ m 1 = some (.cells [.i .i64 (curM l i k)] false)) (fun _ => False) ?_ ?_ ?_ ?_ ?_ ?_
    · rintro i k m m' ⟨q1, q2, q3, q4⟩ h
      exact ⟨(h _ (by omega)).trans q1, (h _ (by omega)).trans q2, (h _ (by omega)).trans q3, (h _ (by omega)).trans q4⟩
    · have e0 : curM l 0 0 = 0 := by rw [curM_z]; rfl
      simp +contextual (disch := omega) [Nat.add_assoc, Int.add_assoc, if_pos, if_neg, -Int.not_lt, -Int.not_le, -Nat.not_lt, -Nat.not_le, -List.length_flatMap, e0]
    · rintro i hi k hk m x K' hx ⟨q1, q2, q3, q4⟩ ht hf'
      have b1 := okC_to (r4 _ (List.getElem_mem hi))
      have b2 := atoms_ok (r4 _ (List.getElem_mem hi)) hk
      have b3 := curM_bd r4 i k
      have e1 := curM_s hi hk
      refine yield_w q2 rfl rfl ?_
      generalize (atomsC l[i])[k] = a at *
      refine w_as hA ?_
      simp +contextual (disch := omega) [Nat.add_assoc, Int.add_assoc, if_pos, if_neg, -Int.not_lt, -Int.not_le, -Nat.not_lt, -Nat.not_le, -List.length_flatMap, horn_Most.a1, q2]
      refine w_as hB ?_
      simp +contextual (disch := omega) [Nat.add_assoc, Int.add_assoc, if_pos, if_neg, -Int.not_lt, -Int.not_le, -Nat.not_lt, -Nat.not_le, -List.length_flatMap, horn_Most.b2, q1, q2, q3, q4, E1, E2, hi]
      refine ht _ _ (by omega) ?_
      simp +contextual (disch := omega) [Nat.add_assoc, Int.add_assoc, if_pos, if_neg, -Int.not_lt, -Int.not_le, -Nat.not_lt, -Nat.not_le, -List.length_flatMap, q1, q2, q3, e1]
    · rintro i hi m ⟨q1, q2, q3, q4⟩
      rw [curM_e hi r4, ← curM_z] at q4
      exact ⟨q1, q2, q3, q4⟩
    · rintro m' x' hx ⟨q1, q2, q3, q4⟩
      rw [curM_z, List.take_length] at q4
      simp +contextual (disch := omega) [Nat.add_assoc, Int.add_assoc, if_pos, if_neg, -Int.not_lt, -Int.not_le, -Nat.not_lt, -Nat.not_le, -List.length_flatMap, q1, q2, q3, q4, E2]
    · rintro m' x' hx h
      exact h.elim
theorem ref08_Most.a (vars : Int) (l : List C) (hl : l.length ≤ 9223372036854775807) (hf : ∀ c ∈ l, c.frm.length ≤ 9223372036854775807) : Ans ctx ref08_Most.n [.i .i64 vars, sV cC l] (mostV vars l) := by
  refine ans ref08_Most.f ?_
  have hr := ref08_Right.a vars l hl hf
  unfold mostV
  cases h1 : rightC vars l with
  | false => simp +contextual (disch := omega) [Nat.add_assoc, Int.add_assoc, if_pos, if_neg, -Int.not_lt, -Int.not_le, -Nat.not_lt, -Nat.not_le, -List.length_flatMap, ref08_Most.c, ansK hr, h1]
  | true =>
    obtain ⟨r1, r2, r3, r4⟩ := right_ok h1
    simp +contextual (disch := omega) [Nat.add_assoc, Int.add_assoc, if_pos, if_neg, -Int.not_lt, -Int.not_le, -Nat.not_lt, -Nat.not_le, -List.length_flatMap, ref08_Most.c, ansK hr, h1]
    refine for_w (fun i e m x => e 1 = sV cC l ∧ e 5 = .i .i64 0 ∧ e 6 = .i .i64 (mostS (l.take i)) ∧ e 7 = .i .i64 i) l.length ?_ ?_ ?_
    · have e0 : mostS [] = 0 := rfl
      simp +contextual (disch := omega) [Nat.add_assoc, Int.add_assoc, if_pos, if_neg, -Int.not_lt, -Int.not_le, -Nat.not_lt, -Nat.not_le, -List.length_flatMap, e0]
    · rintro i e m x hi ⟨g1, g2, g3, g4⟩
      have hok := r4 _ (List.getElem_mem hi)
      have b1 := okC_to hok
      have b0 := mostS_bd (vars := vars) (l := l.take i) (fun c hc => r4 c (List.mem_of_mem_take hc))
      have e1 := mostS_take hi
      have hfi := hf l[i] (List.getElem_mem hi)
      simp +contextual (disch := omega) [Nat.add_assoc, Int.add_assoc, if_pos, if_neg, -Int.not_lt, -Int.not_le, -Nat.not_lt, -Nat.not_le, -List.length_flatMap, ref08_Most.b2, g1, g2, g3, g4, hi]
      refine for_w (fun k e m x => e 1 = sV cC l ∧ e 5 = .i .i64 0 ∧ e 7 = .i .i64 i ∧ e 8 = .i .i64 k ∧ e 6 = .i .i64 ((l[i].frm.take k).foldl (mostF l[i]) (mostS (l.take i)))) l[i].frm.length ?_ ?_ ?_
      · simp +contextual (disch := omega) [Nat.add_assoc, Int.add_assoc, if_pos, if_neg, -Int.not_lt, -Int.not_le, -Nat.not_lt, -Nat.not_le, -List.length_flatMap, g1, g2, g3, g4]
      · rintro k e m x hk ⟨q1, q2, q3, q4, q5⟩
        have b2 := okC_frm hok (List.getElem_mem hk)
        have e2 : (l[i].frm.take (k + 1)).foldl (mostF l[i]) (mostS (l.take i)) = _ := take_fold hk
        generalize (l[i].frm.take k).foldl (mostF l[i]) (mostS (l.take i)) = n at *
        simp +contextual (disch := omega) [Nat.add_assoc, Int.add_assoc, if_pos, if_neg, -Int.not_lt, -Int.not_le, -Nat.not_lt, -Nat.not_le, -List.length_flatMap, ref08_Most.b1, q1, q2, q3, q4, q5, hi, hk, e2, mostF]
      · rintro e m x ⟨q1, q2, q3, q4, q5⟩
        rw [List.take_length, ← e1] at q5
        simp +contextual (disch := omega) [Nat.add_assoc, Int.add_assoc, if_pos, if_neg, -Int.not_lt, -Int.not_le, -Nat.not_lt, -Nat.not_le, -List.length_flatMap, ref08_Most.b1, q1, q2, q3, q4, q5, hi]
    · rintro e m x ⟨g1, g2, g3, g4⟩
      rw [List.take_length] at g3
      simp +contextual (disch := omega) [Nat.add_assoc, Int.add_assoc, if_pos, if_neg, -Int.not_lt, -Int.not_le, -Nat.not_lt, -Nat.not_le, -List.length_flatMap, ref08_Most.b2, g1, g2, g3, g4]
/-! Names. -/
end Pi


set_option linter.unusedSimpArgs false
set_option linter.unusedVariables false
namespace Pi
/-- Values from 0 on, none of which is great. -/
def SmallM (X : Int) (m : List Int) : Prop := ∀ i, 0 ≤ m.getD i 0 ∧ m.getD i 0 ≤ X
theorem SmallM.nats {X : Int} {m : List Int} (h : SmallM X m) (hX : X ≤ 1099511627776) : Nats m := by
  intro a ha
  obtain ⟨i, hi, rfl⟩ := List.mem_iff_getElem.1 ha
  have := h i
  rw [getD_get _ _ hi] at this
  omega
theorem SmallM.mono {X Y : Int} {m : List Int} (h : SmallM X m) (hY : X ≤ Y) : SmallM Y m := fun i => ⟨(h i).1, Int.le_trans (h i).2 hY⟩
theorem okC_mono {u v : Int} (h : u ≤ v) {c : C} (hc : okC u c = true) : okC v c = true := by
  unfold okC at *
  simp only [Bool.and_eq_true, List.all_eq_true] at *
  refine ⟨hc.1, fun a ha => ?_⟩
  have := hc.2 a ha
  simp only [okA, Bool.and_eq_true, decide_eq_true_eq] at *
  omega
theorem asks_small {X : Int} {m : List Int} {c : C} {n : Int} (h : SmallM X m) (hc : okC n c = true) : asksS m c ≤ X + 1000 := by
  obtain ⟨b, b1, b2⟩ := minS_mem m c.frm (okC_ne hc)
  have h1 := okC_frm hc b1
  have h2 := okC_to hc
  have h3 := h b.var.toNat
  unfold asksS
  rw [b2]
  unfold atS
  omega
theorem step_small {X : Int} {m : List Int} {c : C} {n : Int} (h : SmallM X m) (hc : okC n c = true) : SmallM (X + 1000) (stepC m c) := by
  intro i
  have h1 := h i
  have h2 := step_le m c i
  have h3 := asks_small h hc
  refine ⟨by omega, ?_⟩
  unfold stepC
  split
  · rw [getD_set]
    split <;> omega
  · omega
theorem fold_small {n : Int} : ∀ {l : List C} {X : Int} {m : List Int}, SmallM X m → (∀ c ∈ l, okC n c = true) → SmallM (X + 1000 * l.length) (l.foldl stepC m)
  | [], X, m, h, _ => by simpa using h
  | c :: r, X, m, h, hl => by
    have := fold_small (l := r) (step_small h (hl c (by simp))) (fun c hc => hl c (by simp [hc]))
    simp only [List.foldl_cons, List.length_cons]
    exact this.mono (by omega)
theorem fold_len (l : List C) (m : List Int) : (l.foldl stepC m).length = m.length := round_len l m
theorem step_max {m : List Int} {c : C} : stepC m c = m.set c.to.var.toNat (max (m.getD c.to.var.toNat 0) (asksS m c)) := by
  unfold stepC
  split
  · rw [Int.max_eq_right (by omega)]
  · rw [Int.max_eq_left (by omega)]
    by_cases h : c.to.var.toNat < m.length
    · rw [getD_get _ _ h, List.set_getElem_self]
    · rw [List.set_eq_of_length_le (by omega)]
theorem solve_model_round.a {m : List Int} {l : List C} (h16 : m.length = 16) (hs : SmallM 1000000 m) (hl : l.length ≤ 60) (hc : ∀ c ∈ l, okC 16 c = true) : Ans ctx solve_model_round.n [.ag (m.flatMap cI), sV cC l] (.ag ((roundC l m).flatMap cI)) := by
  refine ans solve_model_round.f ?_
  have hcl : (m.flatMap cI).length = 16 := by rw [flatI_len, h16]
  simp +contextual (disch := omega) [Nat.add_assoc, Int.add_assoc, if_pos, if_neg, -Int.not_lt, -Int.not_le, -Nat.not_lt, -Nat.not_le, -List.length_flatMap, solve_model_round.c, hcl]
  refine for_w (fun i e m' x => e 2 = .p 0 0 ∧ e 4 = .p 1 0 ∧ e 7 = sV cC l ∧ e 8 = .i .i64 l.length ∧ e 9 = .i .i64 i ∧ m' 0 = some (.cells (((l.take i).foldl stepC m).flatMap cI) false) ∧ (∃ cs, m' 1 = some (.cells cs false) ∧ cs.length = 16) ∧ 2 ≤ x) l.length ?_ ?_ ?_
  · simp +contextual (disch := omega) [Nat.add_assoc, Int.add_assoc, if_pos, if_neg, -Int.not_lt, -Int.not_le, -Nat.not_lt, -Nat.not_le, -List.length_flatMap]
  · rintro i e m' x hi ⟨g1, g2, g3, g4, g5, g6, ⟨cs, g7, g8⟩, g9⟩
    have hok := hc l[i] (List.getElem_mem hi)
    have hto := okC_to hok
    have hsm := fold_small (n := 16) hs (fun c hq => hc c (List.mem_of_mem_take hq)) (l := l.take i)
    have hq16 := fold_len (l.take i) m
    rw [take_fold hi, step_max]
    generalize (l.take i).foldl stepC m = q at *
    have hlt : (l.take i).length ≤ 60 := by rw [List.length_take]; omega
    have hq : SmallM 1100000 q := hsm.mono (by omega)
    rw [h16] at hq16
    have hA := horn_Asks.a (hq.nats (by omega)) (c := l[i]) (by rw [hq16]; exact hok) (by omega)
    have hA' : Ans ctx horn_Asks.n [.ag (cC l[i]), .sl (q.flatMap cI) 16] (.i .i64 (asksS q l[i])) := by
      have e : sV cI q = .sl (q.flatMap cI) 16 := by unfold sV; rw [hq16]
      rw [← e]; exact hA
    have hv := getD_get q 0 (by omega : l[i].to.var.toNat < q.length)
    have hql : (q.flatMap cI).length = 16 := by rw [flatI_len, hq16]
    have htk : (q.flatMap cI).take 16 = q.flatMap cI := List.take_of_length_le (by omega)
    simp +contextual (disch := omega) [Nat.add_assoc, Int.add_assoc, if_pos, if_neg, -Int.not_lt, -Int.not_le, -Nat.not_lt, -Nat.not_le, -List.length_flatMap, solve_model_round.b1, g1, g2, g3, g4, g5, g6, g7, hi, hq16, ansK hA', hql, htk, flatI_get]
    exact ⟨flatI_set (by omega), g8⟩
  · rintro e m' x ⟨g1, g2, g3, g4, g5, g6, ⟨cs, g7, g8⟩, g9⟩
    rw [List.take_length] at g6
    have hql : (((l.foldl stepC m).flatMap cI)).length = 16 := by rw [flatI_len, fold_len, h16]
    have htk : ((l.foldl stepC m).flatMap cI).take 16 = (l.foldl stepC m).flatMap cI := List.take_of_length_le (by omega)
    simp +contextual (disch := omega) [Nat.add_assoc, Int.add_assoc, if_pos, if_neg, -Int.not_lt, -Int.not_le, -Nat.not_lt, -Nat.not_le, -List.length_flatMap, solve_model_round.b1, g1, g2, g3, g4, g5, g6, g7, g8, hql, htk]
    rfl
def pad16 (m : List Int) : List Int := m ++ List.replicate (16 - m.length) 0
theorem pad_len {m : List Int} (h : m.length ≤ 16) : (pad16 m).length = 16 := by simp [pad16]; omega
theorem pad_at (m : List Int) (i : Nat) : (pad16 m).getD i 0 = m.getD i 0 := by
  unfold pad16
  simp only [List.getD_eq_getElem?_getD]
  by_cases h : i < m.length
  · rw [List.getElem?_append_left h]
  · rw [List.getElem?_append_right (by omega), List.getElem?_eq_none (by omega : m.length ≤ i), List.getElem?_replicate]
    split <;> rfl
theorem pad_asks (m : List Int) (c : C) : asksS (pad16 m) c = asksS m c := by
  have h1 : ∀ a, atS (pad16 m) a = atS m a := fun a => by unfold atS; rw [pad_at]
  have h2 : atS (pad16 m) = atS m := funext h1
  unfold asksS minS
  rw [h2]
theorem pad_step {m : List Int} {c : C} (h : c.to.var.toNat < m.length) : stepC (pad16 m) c = pad16 (stepC m c) := by
  unfold stepC
  rw [pad_at, pad_asks]
  split
  · unfold pad16
    rw [List.set_append_left _ _ h, List.length_set]
  · rfl
theorem pad_fold {n : Int} : ∀ {l : List C} {m : List Int}, n ≤ m.length → (∀ c ∈ l, okC n c = true) → l.foldl stepC (pad16 m) = pad16 (l.foldl stepC m)
  | [], m, _, _ => rfl
  | c :: r, m, hn, hl => by
    have := okC_to (hl c (by simp))
    simp only [List.foldl_cons]
    rw [pad_step (by omega)]
    exact pad_fold (by rw [step_len]; exact hn) (fun c hc => hl c (by simp [hc]))
theorem pad_take (m : List Int) : (pad16 m).take m.length = m := by simp [pad16]
theorem pad_inj {a b : List Int} (hl : a.length = b.length) : pad16 a = pad16 b ↔ a = b := by
  constructor
  · intro h
    have := congrArg (List.take a.length) h
    rw [pad_take, hl, pad_take] at this
    exact this
  · intro h; rw [h]
theorem pad_small {X : Int} {m : List Int} (h : SmallM X m) : SmallM X (pad16 m) := fun i => by rw [pad_at]; exact h i
theorem solve_of.a {l : List Int} (hl : l.length ≤ 16) : Ans ctx solve_of.n [sV cI l] (.ag ((pad16 l).flatMap cI)) := by
  refine ans solve_of.f ?_
  have hp : l.flatMap cI ++ List.drop l.length [V.i .i64 0, V.i .i64 0, V.i .i64 0, V.i .i64 0, V.i .i64 0, V.i .i64 0, V.i .i64 0, V.i .i64 0, V.i .i64 0, V.i .i64 0, V.i .i64 0, V.i .i64 0, V.i .i64 0, V.i .i64 0, V.i .i64 0, V.i .i64 0] = (pad16 l).flatMap cI := by
    unfold pad16
    rw [List.flatMap_append, flatI_map (List.replicate _ _), List.map_replicate, ← List.drop_replicate]
    rfl
  have h1 := flatI_all (rfl : l.length = l.length)
  have h2 : ((pad16 l).flatMap cI).length = 16 := by rw [flatI_len, pad_len hl]
  have h3 := flatI_all (pad_len hl).symm
  simp +contextual (disch := omega) [Nat.add_assoc, Int.add_assoc, if_pos, if_neg, -Int.not_lt, -Int.not_le, -Nat.not_lt, -Nat.not_le, -List.length_flatMap, solve_of.c, h1, hp, h2, h3]
theorem solve_limit.a {vars : Int} {l : List C} (hr : rightC vars l = true) : Ans ctx solve_limit.n [.i .i64 vars, sV cC l] (.i .i64 ((vars - 1) * mostS l)) := by
  refine ans solve_limit.f ?_
  obtain ⟨r1, r2, r3, r4⟩ := right_ok hr
  have hm := horn_Most.a vars l (by omega) (fun c hc => Nat.le_trans (okC_six (r4 c hc)) (by omega))
  rw [mostV, if_pos hr] at hm
  have hb := mostS_bd r4
  have h1 : 0 ≤ (vars - 1) * mostS l := Int.mul_nonneg (by omega) hb.1
  have h2 : (vars - 1) * mostS l ≤ 15 * 1000 := Int.mul_le_mul (by omega) hb.2 hb.1 (by omega)
  simp +contextual (disch := omega) [Nat.add_assoc, Int.add_assoc, if_pos, if_neg, -Int.not_lt, -Int.not_le, -Nat.not_lt, -Nat.not_le, -List.length_flatMap, solve_limit.c, ansK hm]
/-- The greatest value; no value is below 0. -/
def maxL (m : List Int) : Int := m.foldl max 0
theorem maxL_take {m : List Int} {i : Nat} (h : i < m.length) : maxL (m.take (i + 1)) = max (maxL (m.take i)) m[i] := take_fold h
theorem fold_mx (m : List Int) : ∀ b : Int, b ≤ m.foldl max b ∧ (∀ v ∈ m, v ≤ m.foldl max b) ∧ (m.foldl max b = b ∨ m.foldl max b ∈ m) := by
  induction m with
  | nil => intro b; simp
  | cons a r ih =>
    intro b
    simp only [List.foldl_cons]
    obtain ⟨h1, h2, h3⟩ := ih (max b a)
    refine ⟨by omega, fun v hv => ?_, ?_⟩
    · rcases List.mem_cons.1 hv with rfl | hv
      · omega
      · exact h2 v hv
    · rcases h3 with h3 | h3
      · rw [h3]
        by_cases h : b ≤ a
        · rw [Int.max_eq_right h]; exact .inr (by simp)
        · rw [Int.max_eq_left (by omega)]; exact .inl rfl
      · exact .inr (by simp [h3])
theorem slices_Max_int.a9 {m : List Int} (hm : Nats m) (hl : m.length ≤ 1000) (h0 : m ≠ []) : Ans ctx slices_Max_int.n [sV cI m] (.i .i64 (maxL m)) := by
  refine ans slices_Max_int.f ?_
  have h1 : 0 < m.length := List.length_pos_iff.2 h0
  have hb : ∀ (i : Nat) (hi : i < m.length), 0 ≤ m[i] ∧ m[i] ≤ 1099511627776 := fun i hi => hm _ (List.getElem_mem hi)
  have e1 : maxL (m.take 1) = m[0] := by
    have := maxL_take h1
    simp only [Nat.zero_add] at this
    rw [this]
    have := hb 0 h1
    show max (0 : Int) m[0] = m[0]
    omega
  simp +contextual (disch := omega) [Nat.add_assoc, Int.add_assoc, if_pos, if_neg, -Int.not_lt, -Int.not_le, -Nat.not_lt, -Nat.not_le, -List.length_flatMap, slices_Max_int.c, h1]
  refine for_w (fun i e m' x => e 0 = sV cI m ∧ e 4 = .i .i64 (i + 1 : Nat) ∧ e 3 = .i .i64 (maxL (m.take (i + 1)))) (m.length - 1) ?_ ?_ ?_
  · simp +contextual (disch := omega) [Nat.add_assoc, Int.add_assoc, if_pos, if_neg, -Int.not_lt, -Int.not_le, -Nat.not_lt, -Nat.not_le, -List.length_flatMap, e1]
  · rintro i e m' x hi ⟨g1, g2, g3⟩
    have hi' : i + 1 < m.length := by omega
    have e2 := maxL_take hi'
    simp +contextual (disch := omega) [Nat.add_assoc, Int.add_assoc, if_pos, if_neg, -Int.not_lt, -Int.not_le, -Nat.not_lt, -Nat.not_le, -List.length_flatMap, slices_Max_int.b1, g1, g2, g3, hi', e2]
  · rintro e m' x ⟨g1, g2, g3⟩
    have e3 : m.length - 1 + 1 = m.length := by omega
    rw [e3] at g2 g3
    rw [List.take_length] at g3
    simp +contextual (disch := omega) [Nat.add_assoc, Int.add_assoc, if_pos, if_neg, -Int.not_lt, -Int.not_le, -Nat.not_lt, -Nat.not_le, -List.length_flatMap, slices_Max_int.b1, g1, g2, g3]
end Pi

