/- Contracts: clauses (layer 8): what is right, what is asked, as the document has it; what is broken. -/
import Derived.Test.YtfdkpnckflmcaaaC08d
set_option linter.unusedSimpArgs false
set_option linter.unusedVariables false
namespace Pi
theorem ref08_atom.a (a : A) (vars : Int) : Ans ctx ref08_atom.n [.ag (cA a), .i .i64 vars] (.b (okA vars a)) := by
  refine ans ref08_atom.f ?_
  unfold okA
  simp +contextual (disch := omega) [Nat.add_assoc, Int.add_assoc, if_pos, if_neg, -Int.not_lt, -Int.not_le, -Nat.not_lt, -Nat.not_le, -List.length_flatMap, ref08_atom.c]
theorem ref08_Right.a (vars : Int) (l : List C) (hl : l.length ≤ 9223372036854775807) (hf : ∀ c ∈ l, c.frm.length ≤ 9223372036854775807) : Ans ctx ref08_Right.n [.i .i64 vars, sV cC l] (.b (rightC vars l)) := by
  refine ans ref08_Right.f ?_
  by_cases h1 : vars < 1
  · have e : rightC vars l = false := by simp [rightC]; omega
    simp +contextual (disch := omega) [Nat.add_assoc, Int.add_assoc, if_pos, if_neg, -Int.not_lt, -Int.not_le, -Nat.not_lt, -Nat.not_le, -List.length_flatMap, ref08_Right.c, e]
  by_cases h2 : 16 < vars
  · have e : rightC vars l = false := by simp [rightC]; omega
    simp +contextual (disch := omega) [Nat.add_assoc, Int.add_assoc, if_pos, if_neg, -Int.not_lt, -Int.not_le, -Nat.not_lt, -Nat.not_le, -List.length_flatMap, ref08_Right.c, e]
  by_cases h3 : 60 < l.length
  · have e : rightC vars l = false := by simp [rightC]; omega
    simp +contextual (disch := omega) [Nat.add_assoc, Int.add_assoc, if_pos, if_neg, -Int.not_lt, -Int.not_le, -Nat.not_lt, -Nat.not_le, -List.length_flatMap, ref08_Right.c, e]
  have er : rightC vars l = l.all (okC vars) := by simp [rightC]; omega
  rw [er]
  simp +contextual (disch := omega) [Nat.add_assoc, Int.add_assoc, if_pos, if_neg, -Int.not_lt, -Int.not_le, -Nat.not_lt, -Nat.not_le, -List.length_flatMap, ref08_Right.c]
  refine for_w (fun i e m x => e 0 = .i .i64 vars ∧ e 1 = sV cC l ∧ e 5 = .i .i64 i ∧ (l.take i).all (okC vars) = true) l.length ?_ ?_ ?_
  · simp +contextual (disch := omega) [Nat.add_assoc, Int.add_assoc, if_pos, if_neg, -Int.not_lt, -Int.not_le, -Nat.not_lt, -Nat.not_le, -List.length_flatMap]
  · rintro i e m x hi ⟨g1, g2, g3, g4⟩
    have hfi := hf l[i] (List.getElem_mem hi)
    have bad : okC vars l[i] = false → l.all (okC vars) = false := all_at hi
    generalize hc : l[i] = c at hfi bad
    cases ht : okA vars c.to with
    | false =>
      have := bad (by simp [okC, ht])
      simp +contextual (disch := omega) [Nat.add_assoc, Int.add_assoc, if_pos, if_neg, -Int.not_lt, -Int.not_le, -Nat.not_lt, -Nat.not_le, -List.length_flatMap, ref08_Right.b2, g1, g2, g3, hi, hc, ansK (ref08_atom.a _ _), ht, this]
    | true =>
      by_cases hm : c.frm.length < 1
      · have := bad (by simp [okC, manyC, hm]; omega)
        simp +contextual (disch := omega) [Nat.add_assoc, Int.add_assoc, if_pos, if_neg, -Int.not_lt, -Int.not_le, -Nat.not_lt, -Nat.not_le, -List.length_flatMap, ref08_Right.b2, g1, g2, g3, hi, hc, ansK (ref08_atom.a _ _), ht, this]
      by_cases hm2 : 6 < c.frm.length
      · have := bad (by simp [okC, manyC]; omega)
        simp +contextual (disch := omega) [Nat.add_assoc, Int.add_assoc, if_pos, if_neg, -Int.not_lt, -Int.not_le, -Nat.not_lt, -Nat.not_le, -List.length_flatMap, ref08_Right.b2, g1, g2, g3, hi, hc, ansK (ref08_atom.a _ _), ht, this]
      simp +contextual (disch := omega) [Nat.add_assoc, Int.add_assoc, if_pos, if_neg, -Int.not_lt, -Int.not_le, -Nat.not_lt, -Nat.not_le, -List.length_flatMap, ref08_Right.b2, g1, g2, g3, hi, hc, ansK (ref08_atom.a _ _), ht]
      refine for_w (fun k e m x => e 0 = .i .i64 vars ∧ e 1 = sV cC l ∧ e 5 = .i .i64 i ∧ e 6 = .i .i64 k ∧ (c.frm.take k).all (okA vars) = true) c.frm.length ?_ ?_ ?_
      · simp +contextual (disch := omega) [Nat.add_assoc, Int.add_assoc, if_pos, if_neg, -Int.not_lt, -Int.not_le, -Nat.not_lt, -Nat.not_le, -List.length_flatMap, g1, g2, g3]
      · rintro k e m x hk ⟨q1, q2, q3, q4, q5⟩
        cases ha : okA vars c.frm[k] with
        | true => simp +contextual (disch := omega) [Nat.add_assoc, Int.add_assoc, if_pos, if_neg, -Int.not_lt, -Int.not_le, -Nat.not_lt, -Nat.not_le, -List.length_flatMap, ref08_Right.b1, q1, q2, q3, q4, hi, hc, hk, ansK (ref08_atom.a _ _), ha, take_all hk q5 ha]
        | false =>
          have := bad (by
            have : c.frm.all (okA vars) = false := all_at hk ha
            simp [okC, this])
          simp +contextual (disch := omega) [Nat.add_assoc, Int.add_assoc, if_pos, if_neg, -Int.not_lt, -Int.not_le, -Nat.not_lt, -Nat.not_le, -List.length_flatMap, ref08_Right.b1, q1, q2, q3, q4, hi, hc, hk, ansK (ref08_atom.a _ _), ha, this]
      · rintro e m x ⟨q1, q2, q3, q4, q5⟩
        rw [List.take_length] at q5
        have hok : okC vars l[i] = true := by rw [hc]; simp [okC, manyC, q5, ht]; omega
        have := take_all hi g4 hok
        simp +contextual (disch := omega) [Nat.add_assoc, Int.add_assoc, if_pos, if_neg, -Int.not_lt, -Int.not_le, -Nat.not_lt, -Nat.not_le, -List.length_flatMap, ref08_Right.b1, q1, q2, q3, q4, hi, hc]
        simpa using this
  · rintro e m x ⟨g1, g2, g3, g4⟩
    rw [List.take_length] at g4
    simp +contextual (disch := omega) [Nat.add_assoc, Int.add_assoc, if_pos, if_neg, -Int.not_lt, -Int.not_le, -Nat.not_lt, -Nat.not_le, -List.length_flatMap, ref08_Right.b2, g1, g2, g3, g4]
/-- The first atom that is the least, by a model. -/
def minA (f : A → Int) (l : List A) : A := l.foldl (fun m a => if f a < f m then a else m) (l.getD 0 default)
theorem minA_f (f : A → Int) (l : List A) : f (minA f l) = (l.map f).foldl min (f (l.getD 0 default)) := by
  unfold minA
  generalize l.getD 0 default = b
  induction l generalizing b with
  | nil => rfl
  | cons a r ih =>
    simp only [List.foldl_cons, List.map_cons]
    rw [ih]
    congr 1
    split <;> omega
theorem minA_mem (f : A → Int) (l : List A) (h : l ≠ []) : minA f l ∈ l := by
  have key : ∀ (r : List A) (b : A), r.foldl (fun m a => if f a < f m then a else m) b = b ∨ r.foldl (fun m a => if f a < f m then a else m) b ∈ r := by
    intro r
    induction r with
    | nil => intro b; exact .inl rfl
    | cons a r ih =>
      intro b
      simp only [List.foldl_cons]
      rcases ih (if f a < f b then a else b) with h1 | h1
      · rw [h1]
        split
        · exact .inr (by simp)
        · exact .inl rfl
      · exact .inr (by simp [h1])
  cases l with
  | nil => exact absurd rfl h
  | cons a r =>
    rcases key (a :: r) a with h1 | h1
    · unfold minA; simp only [List.getD_cons_zero]; rw [h1]; simp
    · unfold minA; simp only [List.getD_cons_zero]; exact h1
theorem slices_MinFunc_Atom.a (l : List A) (g : Nat) (caps : List V) (f : A → Int) (hg : (ctx.opn g || ctx.frz g) = false) (hpr : ctx.prim g = none) (hc : ∀ D, frzL D caps = some (caps, [])) (h : ∀ a ∈ l, ∀ b ∈ l, Ans ctx g (.ag (cA a) :: .ag (cA b) :: caps) (.i .i64 (f a - f b)))
    (hne : l ≠ []) (hl : l.length ≤ 1000000) : Ans ctx slices_MinFunc_Atom.n [sV cA l, .fn (.func g) [] caps] (.ag (cA (minA f l))) := by
  refine ans slices_MinFunc_Atom.f ?_
  have h0 : 0 < l.length := List.length_pos_iff.2 hne
  have e0 : l.getD 0 default = l[0] := by simp [h0]
  simp +contextual (disch := omega) [Nat.add_assoc, Int.add_assoc, if_pos, if_neg, -Int.not_lt, -Int.not_le, -Nat.not_lt, -Nat.not_le, -List.length_flatMap, slices_MinFunc_Atom.c, h0]
  have fo : ∀ i (hi : i < l.length), (l.take (i + 1)).foldl (fun m a => if f a < f m then a else m) l[0] = (if f l[i] < f ((l.take i).foldl (fun m a => if f a < f m then a else m) l[0]) then l[i] else (l.take i).foldl (fun m a => if f a < f m then a else m) l[0]) := fun i hi => take_fold hi
  refine for_w (fun i e m x => e 0 = sV cA l ∧ e 1 = .fn (.func g) [] caps ∧ e 4 = .p 0 0 ∧ e 5 = .p 7 0 ∧ m 0 = some (.cells [.i .i64 0, .i .i64 0] false) ∧ e 6 = .i .i64 (i + 1 : Nat) ∧ ∃ b, m 7 = some (.cells (cA b) false) ∧ b ∈ l ∧ (l.take (i + 1)).foldl (fun m a => if f a < f m then a else m) l[0] = b) (l.length - 1) ?_ ?_ ?_
  · have e1 : l.take 1 = [l[0]] := by
      cases l with
      | nil => exact absurd rfl hne
      | cons a r => rfl
    simp +contextual (disch := omega) [Nat.add_assoc, Int.add_assoc, if_pos, if_neg, -Int.not_lt, -Int.not_le, -Nat.not_lt, -Nat.not_le, -List.length_flatMap, e1]
  · rintro i e m x hi ⟨g1, g2, g3, g4, g5, g6, b, g7, g8, g9⟩
    have hi' : i + 1 < l.length := by omega
    have hk := h l[i + 1] (List.getElem_mem hi') b g8
    have e2 : (l.take (i + 2)).foldl (fun m a => if f a < f m then a else m) l[0] = _ := fo (i + 1) hi'
    rw [g9] at e2
    have hi3 : i + 1 < 1000000 := by omega
    by_cases hlt : f l[i + 1] < f b
    · rw [if_pos hlt] at e2
      simp +contextual (disch := omega) [Nat.add_assoc, Int.add_assoc, if_pos, if_neg, -Int.not_lt, -Int.not_le, -Nat.not_lt, -Nat.not_le, -List.length_flatMap, slices_MinFunc_Atom.b1, g1, g2, g3, g4, g5, g6, g7, hi', CallX_cl (C := ctx) (g := g) hpr (orF hg).1 (orF hg).2, hc, ansK hk]
      rw [e2]; exact ⟨rfl, List.getElem_mem hi'⟩
    · rw [if_neg hlt] at e2
      simp +contextual (disch := omega) [Nat.add_assoc, Int.add_assoc, if_pos, if_neg, -Int.not_lt, -Int.not_le, -Nat.not_lt, -Nat.not_le, -List.length_flatMap, slices_MinFunc_Atom.b1, g1, g2, g3, g4, g5, g6, g7, hi', CallX_cl (C := ctx) (g := g) hpr (orF hg).1 (orF hg).2, hc, ansK hk]
      rw [e2]; exact ⟨rfl, g8⟩
  · rintro e m x ⟨g1, g2, g3, g4, g5, g6, b, g7, g8, g9⟩
    have e3 : l.length - 1 + 1 = l.length := by omega
    rw [e3, List.take_length] at g9
    have e4 : minA f l = b := by unfold minA; rw [e0]; exact g9
    rw [e3] at g6
    simp +contextual (disch := omega) [Nat.add_assoc, Int.add_assoc, if_pos, if_neg, -Int.not_lt, -Int.not_le, -Nat.not_lt, -Nat.not_le, -List.length_flatMap, slices_MinFunc_Atom.b1, g1, g2, g3, g4, g5, g6, g7, e4]
/-- Right clauses, of values from 0 to 2^40. -/
theorem atS_bd {vars : Int} {model : List Int} (hm : Nats model) {a : A} (h : 0 ≤ a.var ∧ a.var < vars ∧ 0 ≤ a.off ∧ a.off ≤ 1000) : -1000 ≤ atS model a ∧ atS model a ≤ 1099511627776 := by
  have := hm.getD a.var.toNat
  unfold atS
  omega
theorem horn_Asks_1.a {model : List Int} (hm : Nats model) {a b : A} (ha : 0 ≤ a.var ∧ a.var < model.length ∧ 0 ≤ a.off ∧ a.off ≤ 1000) (hb : 0 ≤ b.var ∧ b.var < model.length ∧ 0 ≤ b.off ∧ b.off ≤ 1000) :
    Ans ctx horn_Asks_1.n [.ag (cA a), .ag (cA b), .rp [sV cI model]] (.i .i64 (atS model a - atS model b)) := by
  refine ans horn_Asks_1.f ?_
  have e1 := getD_get model 0 (by omega : a.var.toNat < model.length)
  have e2 := getD_get model 0 (by omega : b.var.toNat < model.length)
  have h1 := hm.getD a.var.toNat
  have h2 := hm.getD b.var.toNat
  unfold atS
  rw [e1] at h1 ⊢
  rw [e2] at h2 ⊢
  simp +contextual (disch := omega) [Nat.add_assoc, Int.add_assoc, if_pos, if_neg, -Int.not_lt, -Int.not_le, -Nat.not_lt, -Nat.not_le, -List.length_flatMap, horn_Asks_1.c]
theorem minS_ok {model : List Int} (l : List A) (hne : l ≠ []) : minS model l = atS model (minA (atS model) l) := by rw [minA_f (atS model) l]; rfl
theorem horn_Asks.a {model : List Int} (hm : Nats model) {c : C} (hc : okC model.length c = true) (hl : model.length ≤ 1000) : Ans ctx horn_Asks.n [.ag (cC c), sV cI model] (.i .i64 (asksS model c)) := by
  refine ans horn_Asks.f ?_
  have hne := okC_ne hc
  have hlen : c.frm.length ≤ 6 := by
    have h := hc
    simp [okC, manyC] at h
    omega
  have hmn := slices_MinFunc_Atom.a c.frm horn_Asks_1.n [.rp [sV cI model]] (atS model) rfl rfl (by simp) (fun a ha b hb => horn_Asks_1.a hm (okC_frm hc ha) (okC_frm hc hb)) hne (by omega)
  have hb := okC_frm hc (minA_mem (atS model) c.frm hne)
  have hto := okC_to hc
  have hbd := atS_bd hm hb
  have e0 : asksS model c = atS model (minA (atS model) c.frm) + c.to.off := by unfold asksS; rw [minS_ok _ hne]
  rw [e0]
  generalize minA (atS model) c.frm = b at *
  have e1 := getD_get model 0 (by omega : b.var.toNat < model.length)
  have h1 := hm.getD b.var.toNat
  unfold atS at hbd ⊢
  rw [e1] at h1 hbd ⊢
  simp +contextual (disch := omega) [Nat.add_assoc, Int.add_assoc, if_pos, if_neg, -Int.not_lt, -Int.not_le, -Nat.not_lt, -Nat.not_le, -List.length_flatMap, horn_Asks.c, ansK hmn]
theorem ref08_Asks.a {model : List Int} (hm : Nats model) {c : C} (hc : okC model.length c = true) (hl : model.length ≤ 1000) : Ans ctx ref08_Asks.n [.ag (cC c), sV cI model] (.i .i64 (asksS model c)) := by
  refine ans ref08_Asks.f ?_
  have hne := okC_ne hc
  have h0 : 0 < c.frm.length := List.length_pos_iff.2 hne
  have hlen : c.frm.length ≤ 6 := by
    have h := hc
    simp [okC, manyC] at h
    omega
  have hto := okC_to hc
  have hat : ∀ (i : Nat) (hi : i < c.frm.length), 0 ≤ c.frm[i].var ∧ c.frm[i].var < model.length ∧ 0 ≤ c.frm[i].off ∧ c.frm[i].off ≤ 1000 := fun i hi => okC_frm hc (List.getElem_mem hi)
  have h1 := hat 0 h0
  have e1 := getD_get model 0 (by omega : c.frm[0].var.toNat < model.length)
  have b1 := hm.getD c.frm[0].var.toNat
  have a1 : atS model c.frm[0] = model.getD c.frm[0].var.toNat 0 - c.frm[0].off := rfl
  have e0 : c.frm.getD 0 default = c.frm[0] := by simp [h0]
  have e2 : minS model c.frm = (c.frm.map (atS model)).foldl min (atS model c.frm[0]) := by unfold minS; rw [e0]
  unfold asksS
  rw [e2]
  have bd0 := atS_bd hm h1
  rw [e1] at b1 a1
  simp +contextual (disch := omega) [Nat.add_assoc, Int.add_assoc, if_pos, if_neg, -Int.not_lt, -Int.not_le, -Nat.not_lt, -Nat.not_le, -List.length_flatMap, ref08_Asks.c, h0]
  refine for_w (fun i e m x => e 1 = sV cI model ∧ e 2 = .p 0 0 ∧ m 0 = some (.cells (cC c) false) ∧ e 6 = .i .i64 i ∧ ∃ n, e 5 = .i .i64 n ∧ (-1000 ≤ n ∧ n ≤ 1099511627776) ∧ ((c.frm.take i).map (atS model)).foldl min (atS model c.frm[0]) = n) c.frm.length ?_ ?_ ?_
  · simp +contextual (disch := omega) [Nat.add_assoc, Int.add_assoc, if_pos, if_neg, -Int.not_lt, -Int.not_le, -Nat.not_lt, -Nat.not_le, -List.length_flatMap, a1]
    omega
  · rintro i e m x hi ⟨g1, g2, g3, g4, n, g5, g6, g7⟩
    have q1 := hat i hi
    have q2 := getD_get model 0 (by omega : c.frm[i].var.toNat < model.length)
    have q3 := hm.getD c.frm[i].var.toNat
    have q4 : ((c.frm.take (i + 1)).map (atS model)).foldl min (atS model c.frm[0]) = min n (model.getD c.frm[i].var.toNat 0 - c.frm[i].off) := by
      rw [List.take_succ_eq_append_getElem hi, List.map_append, List.foldl_append, g7]; rfl
    rw [q4]
    rw [q2] at q3 ⊢
    simp +contextual (disch := omega) [Nat.add_assoc, Int.add_assoc, if_pos, if_neg, -Int.not_lt, -Int.not_le, -Nat.not_lt, -Nat.not_le, -List.length_flatMap, ref08_Asks.b1, g1, g2, g3, g4, g5, hi]
    omega
  · rintro e m x ⟨g1, g2, g3, g4, n, g5, g6, g7⟩
    rw [List.take_length] at g7
    rw [g7]
    simp +contextual (disch := omega) [Nat.add_assoc, Int.add_assoc, if_pos, if_neg, -Int.not_lt, -Int.not_le, -Nat.not_lt, -Nat.not_le, -List.length_flatMap, ref08_Asks.b1, g1, g2, g3, g4, g5]
end Pi
