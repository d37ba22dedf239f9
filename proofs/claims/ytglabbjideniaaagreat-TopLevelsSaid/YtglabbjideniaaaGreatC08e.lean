/- Contracts: clauses (layer 8): what is right, what is asked, as the document has it; what is broken. -/
import Derived.Test.YtglabbjideniaaaGreatC06d
set_option linter.unusedSimpArgs false
set_option linter.unusedVariables false
namespace Pi
/-- The first atom that is the least, by a model. -/
def minA (f : A → Int) (l : List A) : A := l.foldl (fun m a => if f a < f m then a else m) (l.getD 0 default)
theorem minA_f (f : A → Int) (l : List A) : f (minA f l) = (l.map f).foldl min (f (l.getD 0 default)) := by
  unfold minA
  generalize l.getD 0 default = b
  induction l generalizing b with
  | nil => rfl
  | cons a r ih =>
    simp only [List.foldl_cons, List.map_cons]
    rw [ih]
    congr 1
    split <;> omega
theorem minA_mem (f : A → Int) (l : List A) (h : l ≠ []) : minA f l ∈ l := by
  have key : ∀ (r : List A) (b : A), r.foldl (fun m a => if f a < f m then a else m) b = b ∨ r.foldl (fun m a => if f a < f m then a else m) b ∈ r := by
    intro r
    induction r with
    | nil => intro b; exact .inl rfl
    | cons a r ih =>
      intro b
      simp only [List.foldl_cons]
      rcases ih (if f a < f b then a else b) with h1 | h1
      · rw [h1]
        split
        · exact .inr (by simp)
        · exact .inl rfl
      · exact .inr (by simp [h1])
  cases l with
  | nil => exact absurd rfl h
  | cons a r =>
    rcases key (a :: r) a with h1 | h1
    · unfold minA; simp only [List.getD_cons_zero]; rw [h1]; simp
    · unfold minA; simp only [List.getD_cons_zero]; exact h1
theorem slices_MinFunc_Atom.a (l : List A) (g : Nat) (caps : List V) (f : A → Int) (hg : (ctx.opn g || ctx.frz g) = false) (hpr : ctx.prim g = none) (hc : ∀ D, frzL D caps = some (caps, [])) (h : ∀ a ∈ l, ∀ b ∈ l, Ans ctx g (.ag (cA a) :: .ag (cA b) :: caps) (.i .i64 (f a - f b)))
    (hne : l ≠ []) (hl : l.length ≤ 1000000) : Ans ctx slices_MinFunc_Atom.n [sV cA l, .fn (.func g) [] caps] (.ag (cA (minA f l))) := by
  refine ans slices_MinFunc_Atom.f ?_
  have h0 : 0 < l.length := List.length_pos_iff.2 hne
  have e0 : l.getD 0 default = l[0] := by simp [h0]
  simp +contextual (disch := omega) [Nat.add_assoc, Int.add_assoc, if_pos, if_neg, -Int.not_lt, -Int.not_le, -Nat.not_lt, -Nat.not_le, -List.length_flatMap, slices_MinFunc_Atom.c, h0]
  have fo : ∀ i (hi : i < l.length), (l.take (i + 1)).foldl (fun m a => if f a < f m then a else m) l[0] = (if f l[i] < f ((l.take i).foldl (fun m a => if f a < f m then a else m) l[0]) then l[i] else (l.take i).foldl (fun m a => if f a < f m then a else m) l[0]) := fun i hi => take_fold hi
  refine for_w (fun i e m x => e 0 = sV cA l ∧ e 1 = .fn (.func g) [] caps ∧ e 4 = .p 0 0 ∧ e 5 = .p 7 0 ∧ m 0 = some (.cells [.i .i64 0, .i .i64 0] false) ∧ e 6 = .i .i64 (i + 1 : Nat) ∧ ∃ b, m 7 = some (.cells (cA b) false) ∧ b ∈ l ∧ (l.take (i + 1)).foldl (fun m a => if f a < f m then a else m) l[0] = b) (l.length - 1) ?_ ?_ ?_
  · have e1 : l.take 1 = [l[0]] := by
      cases l with
      | nil => exact absurd rfl hne
      | cons a r => rfl
    simp +contextual (disch := omega) [Nat.add_assoc, Int.add_assoc, if_pos, if_neg, -Int.not_lt, -Int.not_le, -Nat.not_lt, -Nat.not_le, -List.length_flatMap, e1]
  · rintro i e m x hi ⟨g1, g2, g3, g4, g5, g6, b, g7, g8, g9⟩
    have hi' : i + 1 < l.length := by omega
    have hk := h l[i + 1] (List.getElem_mem hi') b g8
    have e2 : (l.take (i + 2)).foldl (fun m a => if f a < f m then a else m) l[0] = _ := fo (i + 1) hi'
    rw [g9] at e2
    have hi3 : i + 1 < 1000000 := by omega
    by_cases hlt : f l[i + 1] < f b
    · rw [if_pos hlt] at e2
      simp +contextual (disch := omega) [Nat.add_assoc, Int.add_assoc, if_pos, if_neg, -Int.not_lt, -Int.not_le, -Nat.not_lt, -Nat.not_le, -List.length_flatMap, slices_MinFunc_Atom.b1, g1, g2, g3, g4, g5, g6, g7, hi', CallX_cl (C := ctx) (g := g) hpr (orF hg).1 (orF hg).2, hc, ansK hk]
      rw [e2]; exact ⟨rfl, List.getElem_mem hi'⟩
    · rw [if_neg hlt] at e2
      simp +contextual (disch := omega) [Nat.add_assoc, Int.add_assoc, if_pos, if_neg, -Int.not_lt, -Int.not_le, -Nat.not_lt, -Nat.not_le, -List.length_flatMap, slices_MinFunc_Atom.b1, g1, g2, g3, g4, g5, g6, g7, hi', CallX_cl (C := ctx) (g := g) hpr (orF hg).1 (orF hg).2, hc, ansK hk]
      rw [e2]; exact ⟨rfl, g8⟩
  · rintro e m x ⟨g1, g2, g3, g4, g5, g6, b, g7, g8, g9⟩
    have e3 : l.length - 1 + 1 = l.length := by omega
    rw [e3, List.take_length] at g9
    have e4 : minA f l = b := by unfold minA; rw [e0]; exact g9
    rw [e3] at g6
    simp +contextual (disch := omega) [Nat.add_assoc, Int.add_assoc, if_pos, if_neg, -Int.not_lt, -Int.not_le, -Nat.not_lt, -Nat.not_le, -List.length_flatMap, slices_MinFunc_Atom.b1, g1, g2, g3, g4, g5, g6, g7, e4]
/-- Right clauses, of values from 0 to 2^40. -/
theorem atS_bd {vars : Int} {model : List Int} (hm : Nats model) {a : A} (h : 0 ≤ a.var ∧ a.var < vars ∧ 0 ≤ a.off ∧ a.off ≤ 1000) : -1000 ≤ atS model a ∧ atS model a ≤ 1099511627776 := by
  have := hm.getD a.var.toNat
  unfold atS
  omega
theorem horn_Asks_1.a {model : List Int} (hm : Nats model) {a b : A} (ha : 0 ≤ a.var ∧ a.var < model.length ∧ 0 ≤ a.off ∧ a.off ≤ 1000) (hb : 0 ≤ b.var ∧ b.var < model.length ∧ 0 ≤ b.off ∧ b.off ≤ 1000) :
    Ans ctx horn_Asks_1.n [.ag (cA a), .ag (cA b), .rp [sV cI model]] (.i .i64 (atS model a - atS model b)) := by
  refine ans horn_Asks_1.f ?_
  have e1 := getD_get model 0 (by omega : a.var.toNat < model.length)
  have e2 := getD_get model 0 (by omega : b.var.toNat < model.length)
  have h1 := hm.getD a.var.toNat
  have h2 := hm.getD b.var.toNat
  unfold atS
  rw [e1] at h1 ⊢
  rw [e2] at h2 ⊢
  simp +contextual (disch := omega) [Nat.add_assoc, Int.add_assoc, if_pos, if_neg, -Int.not_lt, -Int.not_le, -Nat.not_lt, -Nat.not_le, -List.length_flatMap, horn_Asks_1.c]
theorem minS_ok {model : List Int} (l : List A) (hne : l ≠ []) : minS model l = atS model (minA (atS model) l) := by rw [minA_f (atS model) l]; rfl
theorem horn_Asks.a {model : List Int} (hm : Nats model) {c : C} (hc : okC model.length c = true) (hl : model.length ≤ 1000) : Ans ctx horn_Asks.n [.ag (cC c), sV cI model] (.i .i64 (asksS model c)) := by
  refine ans horn_Asks.f ?_
  have hne := okC_ne hc
  have hlen : c.frm.length ≤ 6 := by
    have h := hc
    simp [okC, manyC] at h
    omega
  have hmn := slices_MinFunc_Atom.a c.frm horn_Asks_1.n [.rp [sV cI model]] (atS model) rfl rfl (by simp) (fun a ha b hb => horn_Asks_1.a hm (okC_frm hc ha) (okC_frm hc hb)) hne (by omega)
  have hb := okC_frm hc (minA_mem (atS model) c.frm hne)
  have hto := okC_to hc
  have hbd := atS_bd hm hb
  have e0 : asksS model c = atS model (minA (atS model) c.frm) + c.to.off := by unfold asksS; rw [minS_ok _ hne]
  rw [e0]
  generalize minA (atS model) c.frm = b at *
  have e1 := getD_get model 0 (by omega : b.var.toNat < model.length)
  have h1 := hm.getD b.var.toNat
  unfold atS at hbd ⊢
  rw [e1] at h1 hbd ⊢
  simp +contextual (disch := omega) [Nat.add_assoc, Int.add_assoc, if_pos, if_neg, -Int.not_lt, -Int.not_le, -Nat.not_lt, -Nat.not_le, -List.length_flatMap, horn_Asks.c, ansK hmn]
end Pi


set_option linter.unusedSimpArgs false
set_option linter.unusedVariables false
namespace Pi
theorem right_ok {vars : Int} {l : List C} (h : rightC vars l = true) : 1 ≤ vars ∧ vars ≤ 16 ∧ l.length ≤ 60 ∧ ∀ c ∈ l, okC vars c = true := by
  simp [rightC] at h
  exact ⟨by omega, by omega, by omega, h.2⟩
end Pi


set_option linter.unusedSimpArgs false
set_option linter.unusedVariables false
namespace Pi
def mostV (vars : Int) (l : List C) : V := if rightC vars l = true then .tu [.i .i64 (mostS l), .i .i64 0] else .tu [.i .i64 0, .i .i64 1]
def mostF (c : C) (n : Int) (a : A) : Int := max n (c.to.off - a.off)
theorem mostS_eq (l : List C) : mostS l = l.foldl (fun n c => c.frm.foldl (mostF c) n) 0 := rfl
theorem mostS_take {l : List C} {i : Nat} (hi : i < l.length) : mostS (l.take (i + 1)) = l[i].frm.foldl (mostF l[i]) (mostS (l.take i)) := by
  rw [mostS_eq, take_fold hi]; rfl
theorem fold_bd {c : C} {l : List A} (hc : ∀ a ∈ l, -1000 ≤ c.to.off - a.off ∧ c.to.off - a.off ≤ 1000) : ∀ n : Int, 0 ≤ n → n ≤ 1000 → 0 ≤ l.foldl (mostF c) n ∧ l.foldl (mostF c) n ≤ 1000 := by
  intro n h0 h1
  refine fold_inv (P := fun n : Int => 0 ≤ n ∧ n ≤ 1000) (fun b a ha hb => ?_) ⟨h0, h1⟩
  have := hc a ha
  unfold mostF
  omega
theorem mostS_bd {vars : Int} {l : List C} (h : ∀ c ∈ l, okC vars c = true) : 0 ≤ mostS l ∧ mostS l ≤ 1000 := by
  rw [mostS_eq]
  refine fold_inv (P := fun n : Int => 0 ≤ n ∧ n ≤ 1000) (fun b c hc hb => fold_bd (fun a ha => ?_) b hb.1 hb.2) ⟨by omega, by omega⟩
  have h1 := okC_to (h c hc)
  have h2 := okC_frm (h c hc) ha
  omega
def curM (l : List C) (i k : Nat) : Int := match l[i]? with | some c => ((atomsC c).take k).foldl (mostF c) (mostS (l.take i)) | none => mostS (l.take i)
theorem curM_z (l : List C) (i : Nat) : curM l i 0 = mostS (l.take i) := by
  unfold curM
  cases l[i]? <;> simp
theorem curM_s {l : List C} {i k : Nat} (hi : i < l.length) (hk : k < (atomsC l[i]).length) : curM l i (k + 1) = max (curM l i k) (l[i].to.off - (atomsC l[i])[k].off) := by
  unfold curM
  rw [List.getElem?_eq_getElem hi]
  simp only
  rw [take_fold hk]; rfl
theorem curM_e {vars : Int} {l : List C} {i : Nat} (hi : i < l.length) (h : ∀ c ∈ l, okC vars c = true) : curM l i (atomsC l[i]).length = mostS (l.take (i + 1)) := by
  unfold curM
  rw [List.getElem?_eq_getElem hi]
  simp only
  rw [List.take_length, mostS_take hi, atomsC, List.foldl_append]
  have h1 := fold_bd (c := l[i]) (l := l[i].frm) (fun a ha => by
    have h1 := okC_to (h _ (List.getElem_mem hi))
    have h2 := okC_frm (h _ (List.getElem_mem hi)) ha
    omega) (mostS (l.take i)) (mostS_nonneg _) (mostS_bd (fun c hc => h c (List.mem_of_mem_take hc))).2
  simp only [List.foldl_cons, List.foldl_nil]
  generalize l[i].frm.foldl (mostF l[i]) (mostS (l.take i)) = n at *
  unfold mostF
  omega
theorem atoms_ok {vars : Int} {c : C} (h : okC vars c = true) {k : Nat} (hk : k < (atomsC c).length) : 0 ≤ (atomsC c)[k].var ∧ (atomsC c)[k].var < vars ∧ 0 ≤ (atomsC c)[k].off ∧ (atomsC c)[k].off ≤ 1000 := by
  have hm : (atomsC c)[k] ∈ atomsC c := List.getElem_mem hk
  generalize (atomsC c)[k] = a at *
  rcases List.mem_append.1 hm with hm | hm
  · exact okC_frm h hm
  · rw [List.mem_singleton.1 hm]; exact okC_to h
theorem curM_bd {vars : Int} {l : List C} (h : ∀ c ∈ l, okC vars c = true) (i k : Nat) : 0 ≤ curM l i k ∧ curM l i k ≤ 1000 := by
  have h0 := mostS_bd (vars := vars) (l := l.take i) (fun c hc => h c (List.mem_of_mem_take hc))
  unfold curM
  cases hc : l[i]? with
  | none => exact h0
  | some c =>
    have hok := h c (List.mem_of_getElem? hc)
    refine fold_bd (fun a ha => ?_) _ h0.1 h0.2
    have ha := List.mem_of_mem_take ha
    have h1 := okC_to hok
    rcases List.mem_append.1 ha with hm | hm
    · have := okC_frm hok hm; omega
    · rw [List.mem_singleton.1 hm]; omega
theorem horn_Most.a (vars : Int) (l : List C) (hl : l.length ≤ 9223372036854775807) (hf : ∀ c ∈ l, c.frm.length ≤ 9223372036854775807) : Ans ctx horn_Most.n [.i .i64 vars, sV cC l] (mostV vars l) := by
  refine ans horn_Most.f ?_
  have hr := horn_Right.a vars l hl hf
  unfold mostV
  cases h1 : rightC vars l with
  | false => simp +contextual (disch := omega) [Nat.add_assoc, Int.add_assoc, if_pos, if_neg, -Int.not_lt, -Int.not_le, -Nat.not_lt, -Nat.not_le, -List.length_flatMap, horn_Most.c, ansK hr, h1]
  | true =>
    obtain ⟨r1, r2, r3, r4⟩ := right_ok h1
    have hs6 : ∀ c ∈ l, c.frm.length ≤ 100000 := fun c hc => Nat.le_trans (okC_six (r4 c hc)) (by omega)
    simp +contextual (disch := omega) [Nat.add_assoc, Int.add_assoc, if_pos, if_neg, -Int.not_lt, -Int.not_le, -Nat.not_lt, -Nat.not_le, -List.length_flatMap, horn_Most.c, ansK hr, h1, ansK (horn_atoms.a l)]
    refine gen_e (fun E => E 3 = .p 0 0 ∧ E 4 = .p 1 0 ∧ E 5 = .i .i64 0 ∧ E 13 = .fn (.func horn_atoms_1.n) [] [.rp [sV cC l]]) (by simp +contextual (disch := omega) [Nat.add_assoc, Int.add_assoc, if_pos, if_neg, -Int.not_lt, -Int.not_le, -Nat.not_lt, -Nat.not_le, -List.length_flatMap]) ?_
    rintro E ⟨E1, E2, E3, E4⟩
    refine rf_g fun A B hA hB => ?_
    simp +contextual (disch := omega) [Nat.add_assoc, Int.add_assoc, if_pos, if_neg, -Int.not_lt, -Int.not_le, -Nat.not_lt, -Nat.not_le, -List.length_flatMap, E4]
    refine atoms_w (by omega) hs6 (fun i k m => m 7 = some .dfr ∧ m 8 = some (.loop ⟨E, [14, 15], A, B, .ready, none⟩) ∧ m 0 = some (.cells [sV cC l] false) ∧ m 1 = some (.cells [.i .i64 (curM l i k)] false)) (fun _ => False) ?_ ?_ ?_ ?_ ?_ ?_
    · rintro i k m m' ⟨q1, q2, q3, q4⟩ h
      exact ⟨(h _ (by omega)).trans q1, (h _ (by omega)).trans q2, (h _ (by omega)).trans q3, (h _ (by omega)).trans q4⟩
    · have e0 : curM l 0 0 = 0 := by rw [curM_z]; rfl
      simp +contextual (disch := omega) [Nat.add_assoc, Int.add_assoc, if_pos, if_neg, -Int.not_lt, -Int.not_le, -Nat.not_lt, -Nat.not_le, -List.length_flatMap, e0]
    · rintro i hi k hk m x K' hx ⟨q1, q2, q3, q4⟩ ht hf'
      have b1 := okC_to (r4 _ (List.getElem_mem hi))
      have b2 := atoms_ok (r4 _ (List.getElem_mem hi)) hk
      have b3 := curM_bd r4 i k
      have e1 := curM_s hi hk
      refine yield_w q2 rfl rfl ?_
      generalize (atomsC l[i])[k] = a at *
      refine w_as hA ?_
      simp +contextual (disch := omega) [Nat.add_assoc, Int.add_assoc, if_pos, if_neg, -Int.not_lt, -Int.not_le, -Nat.not_lt, -Nat.not_le, -List.length_flatMap, horn_Most.a1, q2]
      refine w_as hB ?_
      simp +contextual (disch := omega) [Nat.add_assoc, Int.add_assoc, if_pos, if_neg, -Int.not_lt, -Int.not_le, -Nat.not_lt, -Nat.not_le, -List.length_flatMap, horn_Most.b2, q1, q2, q3, q4, E1, E2, hi]
      refine ht _ _ (by omega) ?_
      simp +contextual (disch := omega) [Nat.add_assoc, Int.add_assoc, if_pos, if_neg, -Int.not_lt, -Int.not_le, -Nat.not_lt, -Nat.not_le, -List.length_flatMap, q1, q2, q3, e1]
    · rintro i hi m ⟨q1, q2, q3, q4⟩
      rw [curM_e hi r4, ← curM_z] at q4
      exact ⟨q1, q2, q3, q4⟩
    · rintro m' x' hx ⟨q1, q2, q3, q4⟩
      rw [curM_z, List.take_length] at q4
      simp +contextual (disch := omega) [Nat.add_assoc, Int.add_assoc, if_pos, if_neg, -Int.not_lt, -Int.not_le, -Nat.not_lt, -Nat.not_le, -List.length_flatMap, q1, q2, q3, q4, E2]
    · rintro m' x' hx h
      exact h.elim
/-! Names. -/
end Pi


set_option linter.unusedSimpArgs false
set_option linter.unusedVariables false
namespace Pi
def stepC (m : List Int) (c : C) : List Int := if m.getD c.to.var.toNat 0 < asksS m c then m.set c.to.var.toNat (asksS m c) else m
def roundC (l : List C) (m : List Int) : List Int := l.foldl stepC m
def greatC (most : Int) (m : List Int) : Bool := m.any fun v => decide (most < v)
def runC : Nat → List C → Int → List Int → Int → List Int × Bool × Int
  | 0, _, _, _, k => ([], false, k)
  | f + 1, l, most, m, k =>
    if greatC most (roundC l m) then ([], false, k + l.length)
    else if roundC l m = m then (m, true, k + l.length)
    else runC f l most (roundC l m) (k + l.length)
/-- No more in any value. -/
def LeM (a b : List Int) : Prop := ∀ i : Nat, a.getD i 0 ≤ b.getD i 0
theorem LeM.refl (a : List Int) : LeM a a := fun _ => Int.le_refl _
theorem LeM.trans {a b c : List Int} (h : LeM a b) (k : LeM b c) : LeM a c := fun i => Int.le_trans (h i) (k i)
def holdsC (l : List C) (m : List Int) : Prop := ∀ c ∈ l, brokenC m c = false
theorem getD_set (l : List Int) (i j : Nat) (v : Int) : (l.set i v).getD j 0 = if i = j ∧ j < l.length then v else l.getD j 0 := by
  by_cases h : j < l.length
  · simp only [List.getD_eq_getElem?_getD, List.getElem?_set]
    by_cases hij : i = j
    · subst hij; simp [h]
    · simp [hij]
  · have h1 : (l.set i v).getD j 0 = 0 := by simp [List.getElem?_eq_none (by simpa using h : (l.set i v).length ≤ j)]
    have h2 : l.getD j 0 = 0 := by simp [List.getElem?_eq_none (by omega : l.length ≤ j)]
    rw [h1, h2, if_neg (by omega)]
theorem minS_mono {m M : List Int} {l : List A} (hne : l ≠ []) (h : ∀ a ∈ l, atS m a ≤ atS M a) : minS m l ≤ minS M l := by
  obtain ⟨b, b1, b2⟩ := minS_mem M l hne
  have := minS_le m l b b1
  have := h b b1
  omega
theorem asks_mono {m M : List Int} {c : C} (hne : c.frm ≠ []) (h : LeM m M) : asksS m c ≤ asksS M c := by
  have := minS_mono (m := m) (M := M) hne (fun a _ => by have := h a.var.toNat; unfold atS; omega)
  unfold asksS
  omega
theorem step_len (m : List Int) (c : C) : (stepC m c).length = m.length := by
  unfold stepC
  split <;> simp
theorem step_le (m : List Int) (c : C) : LeM m (stepC m c) := by
  intro i
  unfold stepC
  split
  · rw [getD_set]
    split
    · rename_i h1 h2
      rw [← h2.1]
      omega
    · omega
  · omega
theorem step_under {m M : List Int} {c : C} (hne : c.frm ≠ []) (h : LeM m M) (hc : brokenC M c = false) : LeM (stepC m c) M := by
  intro i
  have h1 := holds_at.1 hc
  have h2 := asks_mono hne h
  have h3 := h i
  unfold stepC
  split
  · rw [getD_set]
    split
    · rename_i q
      rw [← q.1]
      omega
    · exact h3
  · exact h3
theorem round_len (l : List C) : ∀ m : List Int, (roundC l m).length = m.length := by
  induction l with
  | nil => intro m; rfl
  | cons c r ih => intro m; exact (ih (stepC m c)).trans (step_len m c)
theorem round_le (l : List C) : ∀ m : List Int, LeM m (roundC l m) := by
  induction l with
  | nil => intro m; exact .refl _
  | cons c r ih => intro m; exact (step_le m c).trans (ih (stepC m c))
theorem round_under {M : List Int} (l : List C) (hl : ∀ c ∈ l, c.frm ≠ []) (hM : holdsC l M) : ∀ m : List Int, LeM m M → LeM (roundC l m) M := by
  induction l with
  | nil => intro m h; exact h
  | cons c r ih =>
    intro m h
    exact ih (fun c hc => hl c (by simp [hc])) (fun c hc => hM c (by simp [hc])) (stepC m c) (step_under (hl c (by simp)) h (hM c (by simp)))
theorem LeM.anti {a b : List Int} (hl : a.length = b.length) (h : LeM a b) (k : LeM b a) : a = b := by
  apply List.ext_getElem hl
  intro i h1 h2
  have e1 := h i
  have e2 := k i
  simp only [List.getD_eq_getElem?_getD, List.getElem?_eq_getElem h1, List.getElem?_eq_getElem h2, Option.getD_some] at e1 e2
  omega
theorem fix_holds (l : List C) : ∀ m : List Int, (∀ c ∈ l, okC m.length c = true) → roundC l m = m → holdsC l m := by
  induction l with
  | nil => intro m _ _ c hc; cases hc
  | cons c r ih =>
    intro m hl h
    have h1 : roundC r (stepC m c) = m := h
    have h2 : LeM (stepC m c) m := by
      have := round_le r (stepC m c)
      rwa [h1] at this
    have h3 : stepC m c = m := LeM.anti (step_len m c) h2 (step_le m c)
    rw [h3] at h1
    intro d hd
    rcases List.mem_cons.1 hd with rfl | hd
    · rw [holds_at]
      have ht := okC_to (hl d (by simp))
      by_cases hb : m.getD d.to.var.toNat 0 < asksS m d
      · have e : (stepC m d).getD d.to.var.toNat 0 = m.getD d.to.var.toNat 0 := by rw [h3]
        unfold stepC at e
        rw [if_pos hb, getD_set, if_pos ⟨rfl, by omega⟩] at e
        omega
      · omega
    · exact ih m (fun c hc => hl c (by simp [hc])) h1 d hd
/-- How far a model is from what is too great. -/
def roomC (most : Int) (m : List Int) : Nat := (m.map fun v => (most + 1 - v).toNat).sum
theorem LeM.cons {a b : Int} {r s : List Int} : LeM (a :: r) (b :: s) ↔ a ≤ b ∧ LeM r s := by
  constructor
  · intro h
    exact ⟨by simpa using h 0, fun i => by simpa using h (i + 1)⟩
  · rintro ⟨h1, h2⟩ i
    cases i with
    | zero => simpa using h1
    | succ i => simpa using h2 i
theorem room_le {most : Int} : ∀ {a b : List Int}, a.length = b.length → LeM a b → roomC most b ≤ roomC most a
  | [], [], _, _ => Nat.le_refl _
  | a :: r, b :: s, hl, h => by
    obtain ⟨h1, h2⟩ := LeM.cons.1 h
    have := room_le (most := most) (by simpa using hl) h2
    simp only [roomC, List.map_cons, List.sum_cons] at this ⊢
    omega
theorem room_lt {most : Int} : ∀ {a b : List Int}, a.length = b.length → LeM a b → a ≠ b → greatC most b = false → roomC most b < roomC most a
  | [], [], _, _, h, _ => absurd rfl h
  | a :: r, b :: s, hl, h, hne, hg => by
    obtain ⟨h1, h2⟩ := LeM.cons.1 h
    have hl' : r.length = s.length := by simpa using hl
    have hg' : ¬ most < b ∧ greatC most s = false := by simpa [greatC] using hg
    by_cases hab : a = b
    · subst hab
      have hrs : r ≠ s := fun e => hne (by rw [e])
      have := room_lt (most := most) hl' h2 hrs hg'.2
      simp only [roomC, List.map_cons, List.sum_cons] at this ⊢
      omega
    · have := room_le (most := most) hl' h2
      simp only [roomC, List.map_cons, List.sum_cons] at this ⊢
      omega
theorem room_bd {most : Int} (h : 0 ≤ most) : ∀ {m : List Int}, (∀ i, 0 ≤ m.getD i 0) → roomC most m ≤ m.length * (most.toNat + 1)
  | [], _ => by simp [roomC]
  | a :: r, h0 => by
    have h1 := h0 0
    have := room_bd h (m := r) (fun i => by simpa using h0 (i + 1))
    simp only [roomC, List.map_cons, List.sum_cons, List.length_cons, Nat.succ_mul] at this ⊢
    simp at h1
    omega
theorem great_false {most : Int} {m : List Int} (h0 : 0 ≤ most) : greatC most m = false ↔ ∀ i, m.getD i 0 ≤ most := by
  unfold greatC
  rw [List.any_eq_false]
  constructor
  · intro h i
    by_cases hi : i < m.length
    · have := h m[i] (List.getElem_mem hi)
      simp only [decide_eq_true_eq] at this
      simp [hi]
      omega
    · simp [List.getElem?_eq_none (by omega : m.length ≤ i)]
      exact h0
  · intro h v hv
    obtain ⟨i, hi, rfl⟩ := List.mem_iff_getElem.1 hv
    have := h i
    simp [hi] at this
    simpa using this
/-- What rounds tell. -/
theorem run_ok {l : List C} {most : Int} {frm : List Int} (h0 : 0 ≤ most) (hl : ∀ c ∈ l, okC frm.length c = true) : ∀ (f : Nat) (m : List Int) (k : Int), m.length = frm.length → LeM frm m → greatC most m = false →
    (∀ M, M.length = frm.length → LeM frm M → holdsC l M → LeM m M) → roomC most m < f →
    ((runC f l most m k).2.1 = true → (runC f l most m k).1.length = frm.length ∧ LeM frm (runC f l most m k).1 ∧ holdsC l (runC f l most m k).1 ∧ greatC most (runC f l most m k).1 = false ∧ ∀ M, M.length = frm.length → LeM frm M → holdsC l M → LeM (runC f l most m k).1 M) ∧
    ((runC f l most m k).2.1 = false → (runC f l most m k).1 = [] ∧ ∀ M, M.length = frm.length → LeM frm M → holdsC l M → greatC most M = true) := by
  intro f
  induction f with
  | zero => intro m k _ _ _ _ h; omega
  | succ f ih =>
    intro m k h1 h2 h3 h4 h5
    have hne : ∀ c ∈ l, c.frm ≠ [] := fun c hc => okC_ne (hl c hc)
    have hu : ∀ M, M.length = frm.length → LeM frm M → holdsC l M → LeM (roundC l m) M := fun M q1 q2 q3 => round_under l hne q3 m (h4 M q1 q2 q3)
    unfold runC
    by_cases hg : greatC most (roundC l m) = true
    · rw [if_pos hg]
      refine ⟨fun h => (nomatch h), fun _ => ⟨rfl, fun M q1 q2 q3 => ?_⟩⟩
      cases hgm : greatC most M with
      | true => rfl
      | false =>
        have e := (great_false h0).1 hgm
        have : greatC most (roundC l m) = false := (great_false h0).2 fun i => Int.le_trans (hu M q1 q2 q3 i) (e i)
        rw [this] at hg
        cases hg
    · rw [if_neg hg]
      have hg' : greatC most (roundC l m) = false := by simpa using hg
      by_cases he : roundC l m = m
      · rw [if_pos he]
        exact ⟨fun _ => ⟨h1, h2, fix_holds l m (by rw [h1]; exact hl) he, h3, h4⟩, fun h => (nomatch h)⟩
      · rw [if_neg he]
        have hr := room_lt (most := most) (round_len l m).symm (round_le l m) (fun e => he e.symm) hg'
        exact ih (roundC l m) (k + l.length) ((round_len l m).trans h1) (h2.trans (round_le l m)) hg' hu (by omega)
/-- More by as much each. -/
theorem holds_shift {n : Nat} {l : List C} {m : List Int} (hn : m.length = n) (hl : ∀ c ∈ l, okC n c = true) (k : Int) (h : holdsC l m) : holdsC l (m.map (· + k)) := by
  intro c hc
  rw [broken_up (vars := n) m _ c k (hl c hc) (fun i hi => by simp [hn, hi])]
  exact h c hc
theorem most_ge {l : List C} {c : C} (hc : c ∈ l) {a : A} (ha : a ∈ c.frm) : c.to.off - a.off ≤ mostS l := by
  have inner : ∀ (fr : List A) (t n : Int), n ≤ fr.foldl (fun n a => max n (t - a.off)) n ∧ ∀ a ∈ fr, t - a.off ≤ fr.foldl (fun n a => max n (t - a.off)) n := by
    intro fr t
    induction fr with
    | nil => intro n; simp
    | cons b r ih =>
      intro n
      simp only [List.foldl_cons]
      have h := ih (max n (t - b.off))
      refine ⟨by omega, fun a ha => ?_⟩
      rcases List.mem_cons.1 ha with rfl | ha
      · omega
      · exact h.2 a ha
  have outer : ∀ (l : List C) (n : Int), n ≤ l.foldl (fun n c => c.frm.foldl (fun n a => max n (c.to.off - a.off)) n) n ∧ ∀ c ∈ l, ∀ a ∈ c.frm, c.to.off - a.off ≤ l.foldl (fun n c => c.frm.foldl (fun n a => max n (c.to.off - a.off)) n) n := by
    intro l
    induction l with
    | nil => intro n; simp
    | cons d r ih =>
      intro n
      simp only [List.foldl_cons]
      have h := ih (d.frm.foldl (fun n a => max n (d.to.off - a.off)) n)
      have hi := inner d.frm d.to.off n
      refine ⟨by omega, fun c hc a ha => ?_⟩
      rcases List.mem_cons.1 hc with rfl | hc
      · have := hi.2 a ha; omega
      · exact h.2 c hc a ha
  exact (outer l 0).2 c hc a ha
/-- Where nothing is between t and what is more by the most, all above can be less by 1. -/
def dropM (t : Int) (m : List Int) : List Int := m.map fun v => if t < v then v - 1 else v
theorem dropM_at (t : Int) (m : List Int) (i : Nat) (hi : i < m.length) : (dropM t m).getD i 0 = if t < m.getD i 0 then m.getD i 0 - 1 else m.getD i 0 := by simp [dropM, hi]
theorem drop_holds {n : Nat} {l : List C} {m : List Int} {t : Int} (hn : m.length = n) (hl : ∀ c ∈ l, okC n c = true) (h : holdsC l m) (hgap : ∀ i, i < n → ¬ (t < m.getD i 0 ∧ m.getD i 0 ≤ t + mostS l)) : holdsC l (dropM t m) := by
  intro c hc
  have ok := hl c hc
  have hto := okC_to ok
  have h1 := holds_at.1 (h c hc)
  rw [holds_at]
  have et := dropM_at t m c.to.var.toNat (by omega)
  have gt := hgap c.to.var.toNat (by omega)
  have hle : ∀ a ∈ c.frm, atS (dropM t m) a ≤ atS m a := by
    intro a ha
    have := okC_frm ok ha
    have e := dropM_at t m a.var.toNat (by omega)
    unfold atS
    rw [e]
    split <;> omega
  have hmono := minS_mono (m := dropM t m) (M := m) (okC_ne ok) hle
  by_cases hs : t < m.getD c.to.var.toNat 0
  · rw [et, if_pos hs]
    obtain ⟨b, b1, b2⟩ := minS_mem m c.frm (okC_ne ok)
    have hb := okC_frm ok b1
    have eb := dropM_at t m b.var.toNat (by omega)
    have lb := minS_le (dropM t m) c.frm b b1
    have mg := most_ge hc b1
    unfold asksS at *
    unfold atS at lb b2
    rw [eb] at lb
    split at lb
    · omega
    · omega
  · rw [et, if_neg hs]
    unfold asksS at *
    omega
theorem sum_lt {f : Int → Int} (hf : ∀ v, f v ≤ v) : ∀ {m : List Int}, (∃ v ∈ m, f v < v) → (m.map f).sum < m.sum
  | [], h => by obtain ⟨v, hv, _⟩ := h; cases hv
  | a :: r, h => by
    have le : ∀ m : List Int, (m.map f).sum ≤ m.sum := by
      intro m
      induction m with
      | nil => simp
      | cons b s ih => have := hf b; simp only [List.map_cons, List.sum_cons]; omega
    have := hf a
    obtain ⟨v, hv, h1⟩ := h
    simp only [List.map_cons, List.sum_cons]
    rcases List.mem_cons.1 hv with rfl | hv
    · have := le r; omega
    · have := sum_lt hf (m := r) ⟨v, hv, h1⟩; omega
theorem sum_nonneg {m : List Int} (h : ∀ v ∈ m, 0 ≤ v) : 0 ≤ m.sum := by
  induction m with
  | nil => simp
  | cons a r ih => have := h a (by simp); have := ih (fun v hv => h v (by simp [hv])); simp only [List.sum_cons]; omega
theorem count_lt {p q : Int → Bool} (hpq : ∀ v, p v = true → q v = true) : ∀ {m : List Int}, (∃ v ∈ m, q v = true ∧ p v = false) → m.countP p < m.countP q
  | [], h => by obtain ⟨v, hv, _⟩ := h; cases hv
  | a :: r, h => by
    have le : r.countP p ≤ r.countP q := List.countP_mono_left fun x _ => hpq x
    obtain ⟨v, hv, h1, h2⟩ := h
    rw [List.countP_cons, List.countP_cons]
    rcases List.mem_cons.1 hv with rfl | hv
    · rw [h1, h2]; simp; omega
    · have := count_lt hpq (m := r) ⟨v, hv, h1, h2⟩
      have ha := hpq a
      cases hp : p a
      · simp; omega
      · rw [ha hp]; simp; omega
/-- A model that is no less than some values, if there is one: one that is not great. -/
theorem small_model {n : Nat} {l : List C} {frm : List Int} {F : Int} (hn : 0 < n) (hf : frm.length = n) (hl : ∀ c ∈ l, okC n c = true) (hF : ∀ i, i < n → 0 ≤ frm.getD i 0 ∧ frm.getD i 0 ≤ F) :
    ∀ (s : Nat) (m : List Int), m.sum.toNat = s → m.length = n → LeM frm m → holdsC l m → ∃ M, M.length = n ∧ LeM frm M ∧ holdsC l M ∧ greatC (F + ((n : Int) - 1) * mostS l) M = false := by
  intro s
  induction s using Nat.strongRecOn with
  | ind s ih =>
    intro m hs hm hle hh
    have h0 := mostS_nonneg l
    have hF0 := hF 0 hn
    have mpos : ∀ v ∈ m, 0 ≤ v := by
      intro v hv
      obtain ⟨i, hi, rfl⟩ := List.mem_iff_getElem.1 hv
      have h1 := hle i
      have h2 := hF i (by omega)
      have e : m.getD i 0 = m[i] := by simp [hi]
      omega
    -- where all above some t at least as great as F can be less
    have less : ∀ t, F ≤ t → (∃ v ∈ m, t < v) → (∀ i, i < n → ¬ (t < m.getD i 0 ∧ m.getD i 0 ≤ t + mostS l)) → ∃ M, M.length = n ∧ LeM frm M ∧ holdsC l M ∧ greatC (F + ((n : Int) - 1) * mostS l) M = false := by
      intro t ht hv hgap
      have hlt : (dropM t m).sum < m.sum := sum_lt (f := fun v => if t < v then v - 1 else v) (fun v => by show (if t < v then v - 1 else v) ≤ v; split <;> omega) (by
        obtain ⟨v, hv1, hv2⟩ := hv
        exact ⟨v, hv1, by show (if t < v then v - 1 else v) < v; rw [if_pos hv2]; omega⟩)
      have hdl : LeM frm (dropM t m) := by
        intro i
        by_cases hi : i < n
        · have h1 := hle i
          have h2 := hF i hi
          rw [dropM_at t m i (by omega)]
          split <;> omega
        · simp [dropM, List.getElem?_eq_none (by omega : m.length ≤ i), List.getElem?_eq_none (by omega : frm.length ≤ i)]
      have hd0 : 0 ≤ (dropM t m).sum := by
        refine sum_nonneg fun v hv => ?_
        obtain ⟨u, hu1, hu2⟩ := List.mem_map.1 hv
        have := mpos u hu1
        subst hu2
        split <;> omega
      exact ih (dropM t m).sum.toNat (by omega) (dropM t m) rfl (by simp [dropM, hm]) hdl (drop_holds hm hl hh hgap)
    by_cases hlow : ∃ v ∈ m, v ≤ F
    · -- count those that are at most F and so many steps
      by_cases hall : ∀ k : Nat, k < n → (∀ v ∈ m, v ≤ F + k * mostS l) ∨ k + 1 ≤ m.countP fun v => decide (v ≤ F + k * mostS l)
      · refine ⟨m, hm, hle, hh, ?_⟩
        have hk := hall (n - 1) (by omega)
        have e : ((n - 1 : Nat) : Int) = (n : Int) - 1 := by omega
        rw [e] at hk
        have : ∀ v ∈ m, v ≤ F + ((n : Int) - 1) * mostS l := by
          rcases hk with hk | hk
          · exact hk
          · have h1 : m.countP (fun v => decide (v ≤ F + ((n : Int) - 1) * mostS l)) = m.length := by
              have := List.countP_le_length (p := fun v => decide (v ≤ F + ((n : Int) - 1) * mostS l)) (l := m)
              omega
            intro v hv
            have := List.countP_eq_length.1 h1 v hv
            simpa using this
        unfold greatC
        rw [List.any_eq_false]
        intro v hv
        have := this v hv
        simp only [decide_eq_true_eq]
        omega
      · -- the first number of steps for which it is not so
        have ex : ∃ k : Nat, k + 1 < n ∧ ((∀ v ∈ m, v ≤ F + k * mostS l) ∨ k + 1 ≤ m.countP fun v => decide (v ≤ F + k * mostS l)) ∧ ¬ ((∀ v ∈ m, v ≤ F + ((k + 1 : Nat) : Int) * mostS l) ∨ k + 1 + 1 ≤ m.countP fun v => decide (v ≤ F + ((k + 1 : Nat) : Int) * mostS l)) := by
          apply Classical.byContradiction
          intro hno
          apply hall
          intro k
          induction k with
          | zero =>
            intro _
            right
            obtain ⟨v, hv1, hv2⟩ := hlow
            have : 0 < m.countP fun v => decide (v ≤ F + ((0 : Nat) : Int) * mostS l) := List.countP_pos_iff.2 ⟨v, hv1, by simpa using hv2⟩
            omega
          | succ k ihk =>
            intro hk
            apply Classical.byContradiction
            intro hno2
            exact hno ⟨k, hk, ihk (by omega), hno2⟩
        obtain ⟨k, hk, h1, h2⟩ := ex
        have e1 : ((k + 1 : Nat) : Int) * mostS l = k * mostS l + mostS l := by rw [Int.natCast_add, Int.add_mul]; simp
        have hk0 : 0 ≤ (k : Int) * mostS l := Int.mul_nonneg (by omega) h0
        rw [e1] at h2
        refine less (F + k * mostS l) (by omega) ?_ ?_
        · apply Classical.byContradiction
          intro hno
          apply h2
          left
          intro v hv
          have : ¬ (F + k * mostS l < v) := fun h => hno ⟨v, hv, h⟩
          omega
        · intro i hi hbet
          have hi' : i < m.length := by omega
          have e2 : m.getD i 0 = m[i] := by simp [hi']
          rw [e2] at hbet
          apply h2
          rcases h1 with h1 | h1
          · left
            intro v hv
            have := h1 v hv
            omega
          · right
            have := count_lt (p := fun v => decide (v ≤ F + k * mostS l)) (q := fun v => decide (v ≤ F + (k * mostS l + mostS l))) (fun v hv => by simp only [decide_eq_true_eq] at hv ⊢; omega) (m := m)
              ⟨m[i], List.getElem_mem hi', by simp only [decide_eq_true_eq, decide_eq_false_iff_not]; omega⟩
            omega
    · -- all are more than F: all less by 1
      have hall : ∀ v ∈ m, F < v := fun v hv => by
        have : ¬ v ≤ F := fun h => hlow ⟨v, hv, h⟩
        omega
      have hmap : ∀ i, i < n → (m.map (· + (-1))).getD i 0 = m.getD i 0 - 1 := by
        intro i hi
        have : i < m.length := by omega
        simp [this]
        omega
      have hne : ∃ v, v ∈ m := by
        cases m with
        | nil => simp at hm; omega
        | cons a r => exact ⟨a, by simp⟩
      have hlt : (m.map (· + (-1))).sum < m.sum := sum_lt (f := (· + (-1))) (fun v => by omega) (by obtain ⟨v, hv⟩ := hne; exact ⟨v, hv, by omega⟩)
      have hd0 : 0 ≤ (m.map (· + (-1))).sum := by
        refine sum_nonneg fun v hv => ?_
        obtain ⟨u, hu1, hu2⟩ := List.mem_map.1 hv
        have := hall u hu1
        omega
      refine ih (m.map (· + (-1))).sum.toNat (by omega) _ rfl (by simp [hm]) (fun i => ?_) (holds_shift hm hl (-1) hh)
      by_cases hi : i < n
      · have h2 := hF i hi
        rw [hmap i hi]
        have e : m.getD i 0 ∈ m := by
          have : i < m.length := by omega
          have e2 : m.getD i 0 = m[i] := by simp [this]
          rw [e2]
          exact List.getElem_mem this
        have := hall _ e
        omega
      · simp [List.getElem?_eq_none (by omega : m.length ≤ i), List.getElem?_eq_none (by omega : frm.length ≤ i)]
end Pi


set_option linter.unusedSimpArgs false
set_option linter.unusedVariables false
namespace Pi
structure LeastM (l : List C) (frm out : List Int) : Prop where
  len : out.length = frm.length
  ge : LeM frm out
  holds : holdsC l out
  least : ∀ M, M.length = frm.length → LeM frm M → holdsC l M → LeM out M
def limC (n : Nat) (l : List C) (F : Int) : Int := F + ((n : Int) - 1) * mostS l
/-- Rounds from some values on, up to a limit. -/
def lmC (l : List C) (frm : List Int) (most : Int) : List Int × Bool × Int := runC (roomC most frm + 1) l most frm 0
def NoModel (n : Nat) (l : List C) : Prop := ∀ M : List Int, M.length = n → (∀ i, 0 ≤ M.getD i 0) → ¬ holdsC l M
theorem limC_ge {n : Nat} (hn : 0 < n) (l : List C) (F : Int) : F ≤ limC n l F := by
  have := Int.mul_nonneg (by omega : 0 ≤ (n : Int) - 1) (mostS_nonneg l)
  unfold limC
  omega
theorem lm_spec {l : List C} {frm : List Int} {F : Int} (hn : 0 < frm.length) (hl : ∀ c ∈ l, okC frm.length c = true) (hF : ∀ i, i < frm.length → 0 ≤ frm.getD i 0 ∧ frm.getD i 0 ≤ F) :
    ((lmC l frm (limC frm.length l F)).2.1 = true ∧ LeastM l frm (lmC l frm (limC frm.length l F)).1 ∧ ∀ i, (lmC l frm (limC frm.length l F)).1.getD i 0 ≤ limC frm.length l F) ∨
    ((lmC l frm (limC frm.length l F)).2.1 = false ∧ (lmC l frm (limC frm.length l F)).1 = [] ∧ NoModel frm.length l) := by
  have hF0 := hF 0 hn
  have hlim := limC_ge hn l F
  have h0 : 0 ≤ limC frm.length l F := by omega
  have hstart : greatC (limC frm.length l F) frm = false := (great_false h0).2 fun i => by
    by_cases hi : i < frm.length
    · have := hF i hi; omega
    · simp [List.getElem?_eq_none (by omega : frm.length ≤ i)]; exact h0
  have h := run_ok h0 hl (roomC (limC frm.length l F) frm + 1) frm 0 rfl (.refl _) hstart (fun M _ q _ => q) (by omega)
  cases hb : (lmC l frm (limC frm.length l F)).2.1 with
  | true =>
    obtain ⟨q1, q2, q3, q4, q5⟩ := h.1 hb
    exact .inl ⟨rfl, ⟨q1, q2, q3, q5⟩, (great_false h0).1 q4⟩
  | false =>
    obtain ⟨q1, q2⟩ := h.2 hb
    refine .inr ⟨rfl, q1, fun M hM hpos hh => ?_⟩
    have hsh : LeM frm (M.map (· + F)) := by
      intro i
      by_cases hi : i < frm.length
      · have e : (M.map (· + F)).getD i 0 = M.getD i 0 + F := by
          have : i < M.length := by omega
          simp [this]
        rw [e]
        have := hF i hi
        have := hpos i
        omega
      · simp [List.getElem?_eq_none (by omega : frm.length ≤ i), List.getElem?_eq_none (by omega : M.length ≤ i)]
    obtain ⟨M', p1, p2, p3, p4⟩ := small_model (F := F) hn rfl hl hF _ (M.map (· + F)) rfl (by simp [hM]) hsh (holds_shift hM hl F hh)
    have := q2 M' p1 p2 p3
    unfold limC at this
    rw [this] at p4
    cases p4
/-- From noughts on. -/
def noughts (n : Nat) : List Int := List.replicate n 0
theorem noughts_at (n i : Nat) : (noughts n).getD i 0 = 0 := by
  unfold noughts
  by_cases h : i < n
  · simp [h]
  · simp [List.getElem?_eq_none (by simpa using h : (List.replicate n (0 : Int)).length ≤ i)]
theorem noughts_len (n : Nat) : (noughts n).length = n := by simp [noughts]
theorem le_noughts {n : Nat} {M : List Int} : LeM (noughts n) M ↔ ∀ i, 0 ≤ M.getD i 0 := by
  unfold LeM
  constructor
  · intro h i; have := h i; rw [noughts_at] at this; exact this
  · intro h i; rw [noughts_at]; exact h i
def solveC (n : Nat) (l : List C) : List Int × Bool × Int := lmC l (noughts n) (limC n l 0)
theorem solve_spec {n : Nat} {l : List C} (hn : 0 < n) (hl : ∀ c ∈ l, okC n c = true) :
    ((solveC n l).2.1 = true ∧ LeastM l (noughts n) (solveC n l).1 ∧ ∀ i, (solveC n l).1.getD i 0 ≤ limC n l 0) ∨ ((solveC n l).2.1 = false ∧ (solveC n l).1 = [] ∧ NoModel n l) := by
  have h := lm_spec (l := l) (frm := noughts n) (F := 0) (by rw [noughts_len]; exact hn) (by rw [noughts_len]; exact hl) (fun i _ => by rw [noughts_at]; omega)
  rw [noughts_len] at h
  exact h
theorem solve_iff {n : Nat} {l : List C} (hn : 0 < n) (hl : ∀ c ∈ l, okC n c = true) : (solveC n l).2.1 = false ↔ NoModel n l := by
  rcases solve_spec hn hl with ⟨h1, h2, _⟩ | ⟨h1, _, h2⟩
  · refine ⟨fun h => (by rw [h] at h1; cases h1), fun h => (h _ (by rw [h2.len, noughts_len]) (le_noughts.1 h2.ge) h2.holds).elim⟩
  · exact ⟨fun _ => h2, fun _ => h1⟩
theorem holds_app {a b : List C} {M : List Int} : holdsC (a ++ b) M ↔ holdsC a M ∧ holdsC b M := by
  unfold holdsC
  constructor
  · intro h; exact ⟨fun c hc => h c (by simp [hc]), fun c hc => h c (by simp [hc])⟩
  · rintro ⟨h1, h2⟩ c hc
    rcases List.mem_append.1 hc with hc | hc
    · exact h1 c hc
    · exact h2 c hc
end Pi


set_option linter.unusedSimpArgs false
set_option linter.unusedVariables false
namespace Pi
/-- Values from 0 on, none of which is great. -/
def SmallM (X : Int) (m : List Int) : Prop := ∀ i, 0 ≤ m.getD i 0 ∧ m.getD i 0 ≤ X
theorem SmallM.nats {X : Int} {m : List Int} (h : SmallM X m) (hX : X ≤ 1099511627776) : Nats m := by
  intro a ha
  obtain ⟨i, hi, rfl⟩ := List.mem_iff_getElem.1 ha
  have := h i
  rw [getD_get _ _ hi] at this
  omega
theorem SmallM.mono {X Y : Int} {m : List Int} (h : SmallM X m) (hY : X ≤ Y) : SmallM Y m := fun i => ⟨(h i).1, Int.le_trans (h i).2 hY⟩
theorem okC_mono {u v : Int} (h : u ≤ v) {c : C} (hc : okC u c = true) : okC v c = true := by
  unfold okC at *
  simp only [Bool.and_eq_true, List.all_eq_true] at *
  refine ⟨hc.1, fun a ha => ?_⟩
  have := hc.2 a ha
  simp only [okA, Bool.and_eq_true, decide_eq_true_eq] at *
  omega
theorem asks_small {X : Int} {m : List Int} {c : C} {n : Int} (h : SmallM X m) (hc : okC n c = true) : asksS m c ≤ X + 1000 := by
  obtain ⟨b, b1, b2⟩ := minS_mem m c.frm (okC_ne hc)
  have h1 := okC_frm hc b1
  have h2 := okC_to hc
  have h3 := h b.var.toNat
  unfold asksS
  rw [b2]
  unfold atS
  omega
theorem step_small {X : Int} {m : List Int} {c : C} {n : Int} (h : SmallM X m) (hc : okC n c = true) : SmallM (X + 1000) (stepC m c) := by
  intro i
  have h1 := h i
  have h2 := step_le m c i
  have h3 := asks_small h hc
  refine ⟨by omega, ?_⟩
  unfold stepC
  split
  · rw [getD_set]
    split <;> omega
  · omega
theorem fold_small {n : Int} : ∀ {l : List C} {X : Int} {m : List Int}, SmallM X m → (∀ c ∈ l, okC n c = true) → SmallM (X + 1000 * l.length) (l.foldl stepC m)
  | [], X, m, h, _ => by simpa using h
  | c :: r, X, m, h, hl => by
    have := fold_small (l := r) (step_small h (hl c (by simp))) (fun c hc => hl c (by simp [hc]))
    simp only [List.foldl_cons, List.length_cons]
    exact this.mono (by omega)
theorem fold_len (l : List C) (m : List Int) : (l.foldl stepC m).length = m.length := round_len l m
theorem step_max {m : List Int} {c : C} : stepC m c = m.set c.to.var.toNat (max (m.getD c.to.var.toNat 0) (asksS m c)) := by
  unfold stepC
  split
  · rw [Int.max_eq_right (by omega)]
  · rw [Int.max_eq_left (by omega)]
    by_cases h : c.to.var.toNat < m.length
    · rw [getD_get _ _ h, List.set_getElem_self]
    · rw [List.set_eq_of_length_le (by omega)]
theorem solve_model_round.a {m : List Int} {l : List C} (h16 : m.length = 16) (hs : SmallM 1000000 m) (hl : l.length ≤ 60) (hc : ∀ c ∈ l, okC 16 c = true) : Ans ctx solve_model_round.n [.ag (m.flatMap cI), sV cC l] (.ag ((roundC l m).flatMap cI)) := by
  refine ans solve_model_round.f ?_
  have hcl : (m.flatMap cI).length = 16 := by rw [flatI_len, h16]
  simp +contextual (disch := omega) [Nat.add_assoc, Int.add_assoc, if_pos, if_neg, -Int.not_lt, -Int.not_le, -Nat.not_lt, -Nat.not_le, -List.length_flatMap, solve_model_round.c, hcl]
  refine for_w (fun i e m' x => e 2 = .p 0 0 ∧ e 4 = .p 1 0 ∧ e 7 = sV cC l ∧ e 8 = .i .i64 l.length ∧ e 9 = .i .i64 i ∧ m' 0 = some (.cells (((l.take i).foldl stepC m).flatMap cI) false) ∧ (∃ cs, m' 1 = some (.cells cs false) ∧ cs.length = 16) ∧ 2 ≤ x) l.length ?_ ?_ ?_
  · simp +contextual (disch := omega) [Nat.add_assoc, Int.add_assoc, if_pos, if_neg, -Int.not_lt, -Int.not_le, -Nat.not_lt, -Nat.not_le, -List.length_flatMap]
  · rintro i e m' x hi ⟨g1, g2, g3, g4, g5, g6, ⟨cs, g7, g8⟩, g9⟩
    have hok := hc l[i] (List.getElem_mem hi)
    have hto := okC_to hok
    have hsm := fold_small (n := 16) hs (fun c hq => hc c (List.mem_of_mem_take hq)) (l := l.take i)
    have hq16 := fold_len (l.take i) m
    rw [take_fold hi, step_max]
    generalize (l.take i).foldl stepC m = q at *
    have hlt : (l.take i).length ≤ 60 := by rw [List.length_take]; omega
    have hq : SmallM 1100000 q := hsm.mono (by omega)
    rw [h16] at hq16
    have hA := horn_Asks.a (hq.nats (by omega)) (c := l[i]) (by rw [hq16]; exact hok) (by omega)
    have hA' : Ans ctx horn_Asks.n [.ag (cC l[i]), .sl (q.flatMap cI) 16] (.i .i64 (asksS q l[i])) := by
      have e : sV cI q = .sl (q.flatMap cI) 16 := by unfold sV; rw [hq16]
      rw [← e]; exact hA
    have hv := getD_get q 0 (by omega : l[i].to.var.toNat < q.length)
    have hql : (q.flatMap cI).length = 16 := by rw [flatI_len, hq16]
    have htk : (q.flatMap cI).take 16 = q.flatMap cI := List.take_of_length_le (by omega)
    simp +contextual (disch := omega) [Nat.add_assoc, Int.add_assoc, if_pos, if_neg, -Int.not_lt, -Int.not_le, -Nat.not_lt, -Nat.not_le, -List.length_flatMap, solve_model_round.b1, g1, g2, g3, g4, g5, g6, g7, hi, hq16, ansK hA', hql, htk, flatI_get]
    exact ⟨flatI_set (by omega), g8⟩
  · rintro e m' x ⟨g1, g2, g3, g4, g5, g6, ⟨cs, g7, g8⟩, g9⟩
    rw [List.take_length] at g6
    have hql : (((l.foldl stepC m).flatMap cI)).length = 16 := by rw [flatI_len, fold_len, h16]
    have htk : ((l.foldl stepC m).flatMap cI).take 16 = (l.foldl stepC m).flatMap cI := List.take_of_length_le (by omega)
    simp +contextual (disch := omega) [Nat.add_assoc, Int.add_assoc, if_pos, if_neg, -Int.not_lt, -Int.not_le, -Nat.not_lt, -Nat.not_le, -List.length_flatMap, solve_model_round.b1, g1, g2, g3, g4, g5, g6, g7, g8, hql, htk]
    rfl
def pad16 (m : List Int) : List Int := m ++ List.replicate (16 - m.length) 0
theorem pad_len {m : List Int} (h : m.length ≤ 16) : (pad16 m).length = 16 := by simp [pad16]; omega
theorem pad_at (m : List Int) (i : Nat) : (pad16 m).getD i 0 = m.getD i 0 := by
  unfold pad16
  simp only [List.getD_eq_getElem?_getD]
  by_cases h : i < m.length
  · rw [List.getElem?_append_left h]
  · rw [List.getElem?_append_right (by omega), List.getElem?_eq_none (by omega : m.length ≤ i), List.getElem?_replicate]
    split <;> rfl
theorem pad_asks (m : List Int) (c : C) : asksS (pad16 m) c = asksS m c := by
  have h1 : ∀ a, atS (pad16 m) a = atS m a := fun a => by unfold atS; rw [pad_at]
  have h2 : atS (pad16 m) = atS m := funext h1
  unfold asksS minS
  rw [h2]
theorem pad_step {m : List Int} {c : C} (h : c.to.var.toNat < m.length) : stepC (pad16 m) c = pad16 (stepC m c) := by
  unfold stepC
  rw [pad_at, pad_asks]
  split
  · unfold pad16
    rw [List.set_append_left _ _ h, List.length_set]
  · rfl
theorem pad_fold {n : Int} : ∀ {l : List C} {m : List Int}, n ≤ m.length → (∀ c ∈ l, okC n c = true) → l.foldl stepC (pad16 m) = pad16 (l.foldl stepC m)
  | [], m, _, _ => rfl
  | c :: r, m, hn, hl => by
    have := okC_to (hl c (by simp))
    simp only [List.foldl_cons]
    rw [pad_step (by omega)]
    exact pad_fold (by rw [step_len]; exact hn) (fun c hc => hl c (by simp [hc]))
theorem pad_take (m : List Int) : (pad16 m).take m.length = m := by simp [pad16]
theorem pad_inj {a b : List Int} (hl : a.length = b.length) : pad16 a = pad16 b ↔ a = b := by
  constructor
  · intro h
    have := congrArg (List.take a.length) h
    rw [pad_take, hl, pad_take] at this
    exact this
  · intro h; rw [h]
theorem pad_small {X : Int} {m : List Int} (h : SmallM X m) : SmallM X (pad16 m) := fun i => by rw [pad_at]; exact h i
theorem solve_of.a {l : List Int} (hl : l.length ≤ 16) : Ans ctx solve_of.n [sV cI l] (.ag ((pad16 l).flatMap cI)) := by
  refine ans solve_of.f ?_
  have hp : l.flatMap cI ++ List.drop l.length [V.i .i64 0, V.i .i64 0, V.i .i64 0, V.i .i64 0, V.i .i64 0, V.i .i64 0, V.i .i64 0, V.i .i64 0, V.i .i64 0, V.i .i64 0, V.i .i64 0, V.i .i64 0, V.i .i64 0, V.i .i64 0, V.i .i64 0, V.i .i64 0] = (pad16 l).flatMap cI := by
    unfold pad16
    rw [List.flatMap_append, flatI_map (List.replicate _ _), List.map_replicate, ← List.drop_replicate]
    rfl
  have h1 := flatI_all (rfl : l.length = l.length)
  have h2 : ((pad16 l).flatMap cI).length = 16 := by rw [flatI_len, pad_len hl]
  have h3 := flatI_all (pad_len hl).symm
  simp +contextual (disch := omega) [Nat.add_assoc, Int.add_assoc, if_pos, if_neg, -Int.not_lt, -Int.not_le, -Nat.not_lt, -Nat.not_le, -List.length_flatMap, solve_of.c, h1, hp, h2, h3]
theorem solve_limit.a {vars : Int} {l : List C} (hr : rightC vars l = true) : Ans ctx solve_limit.n [.i .i64 vars, sV cC l] (.i .i64 ((vars - 1) * mostS l)) := by
  refine ans solve_limit.f ?_
  obtain ⟨r1, r2, r3, r4⟩ := right_ok hr
  have hm := horn_Most.a vars l (by omega) (fun c hc => Nat.le_trans (okC_six (r4 c hc)) (by omega))
  rw [mostV, if_pos hr] at hm
  have hb := mostS_bd r4
  have h1 : 0 ≤ (vars - 1) * mostS l := Int.mul_nonneg (by omega) hb.1
  have h2 : (vars - 1) * mostS l ≤ 15 * 1000 := Int.mul_le_mul (by omega) hb.2 hb.1 (by omega)
  simp +contextual (disch := omega) [Nat.add_assoc, Int.add_assoc, if_pos, if_neg, -Int.not_lt, -Int.not_le, -Nat.not_lt, -Nat.not_le, -List.length_flatMap, solve_limit.c, ansK hm]
/-- The greatest value; no value is below 0. -/
def maxL (m : List Int) : Int := m.foldl max 0
theorem maxL_take {m : List Int} {i : Nat} (h : i < m.length) : maxL (m.take (i + 1)) = max (maxL (m.take i)) m[i] := take_fold h
theorem fold_mx (m : List Int) : ∀ b : Int, b ≤ m.foldl max b ∧ (∀ v ∈ m, v ≤ m.foldl max b) ∧ (m.foldl max b = b ∨ m.foldl max b ∈ m) := by
  induction m with
  | nil => intro b; simp
  | cons a r ih =>
    intro b
    simp only [List.foldl_cons]
    obtain ⟨h1, h2, h3⟩ := ih (max b a)
    refine ⟨by omega, fun v hv => ?_, ?_⟩
    · rcases List.mem_cons.1 hv with rfl | hv
      · omega
      · exact h2 v hv
    · rcases h3 with h3 | h3
      · rw [h3]
        by_cases h : b ≤ a
        · rw [Int.max_eq_right h]; exact .inr (by simp)
        · rw [Int.max_eq_left (by omega)]; exact .inl rfl
      · exact .inr (by simp [h3])
theorem slices_Max_int.a9 {m : List Int} (hm : Nats m) (hl : m.length ≤ 1000) (h0 : m ≠ []) : Ans ctx slices_Max_int.n [sV cI m] (.i .i64 (maxL m)) := by
  refine ans slices_Max_int.f ?_
  have h1 : 0 < m.length := List.length_pos_iff.2 h0
  have hb : ∀ (i : Nat) (hi : i < m.length), 0 ≤ m[i] ∧ m[i] ≤ 1099511627776 := fun i hi => hm _ (List.getElem_mem hi)
  have e1 : maxL (m.take 1) = m[0] := by
    have := maxL_take h1
    simp only [Nat.zero_add] at this
    rw [this]
    have := hb 0 h1
    show max (0 : Int) m[0] = m[0]
    omega
  simp +contextual (disch := omega) [Nat.add_assoc, Int.add_assoc, if_pos, if_neg, -Int.not_lt, -Int.not_le, -Nat.not_lt, -Nat.not_le, -List.length_flatMap, slices_Max_int.c, h1]
  refine for_w (fun i e m' x => e 0 = sV cI m ∧ e 4 = .i .i64 (i + 1 : Nat) ∧ e 3 = .i .i64 (maxL (m.take (i + 1)))) (m.length - 1) ?_ ?_ ?_
  · simp +contextual (disch := omega) [Nat.add_assoc, Int.add_assoc, if_pos, if_neg, -Int.not_lt, -Int.not_le, -Nat.not_lt, -Nat.not_le, -List.length_flatMap, e1]
  · rintro i e m' x hi ⟨g1, g2, g3⟩
    have hi' : i + 1 < m.length := by omega
    have e2 := maxL_take hi'
    simp +contextual (disch := omega) [Nat.add_assoc, Int.add_assoc, if_pos, if_neg, -Int.not_lt, -Int.not_le, -Nat.not_lt, -Nat.not_le, -List.length_flatMap, slices_Max_int.b1, g1, g2, g3, hi', e2]
  · rintro e m' x ⟨g1, g2, g3⟩
    have e3 : m.length - 1 + 1 = m.length := by omega
    rw [e3] at g2 g3
    rw [List.take_length] at g3
    simp +contextual (disch := omega) [Nat.add_assoc, Int.add_assoc, if_pos, if_neg, -Int.not_lt, -Int.not_le, -Nat.not_lt, -Nat.not_le, -List.length_flatMap, slices_Max_int.b1, g1, g2, g3]
end Pi

