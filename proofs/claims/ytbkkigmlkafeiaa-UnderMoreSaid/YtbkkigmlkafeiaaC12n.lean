/- Constraints, in plain words: what a case's clauses say of values. -/
import Derived.Test.YtbkkigmlkafeiaaC12d
import Derived.Test.YtbkkigmlkafeiaaC02g
set_option linter.unusedSimpArgs false
set_option linter.unusedVariables false
namespace Pi
/-- What an atom is by values (the nought-th is 0). -/
def valA (p : List Int) (t : A) : Int := (0 :: p).getD t.var.toNat 0 + t.off
theorem mem_atomsO {t : A} : ∀ {l : List Int} {i : Nat}, t ∈ atomsO l i ↔ ∃ j : Nat, j < l.length ∧ 0 ≤ l.getD j (-1) ∧ t = ⟨((i + j : Nat) : Int), l.getD j (-1)⟩
  | [], i => by simp [atomsO]
  | n :: r, i => by
    have ih := mem_atomsO (t := t) (l := r) (i := i + 1)
    have key : (∃ j : Nat, j < (n :: r).length ∧ 0 ≤ (n :: r).getD j (-1) ∧ t = ⟨((i + j : Nat) : Int), (n :: r).getD j (-1)⟩) ↔ (0 ≤ n ∧ t = ⟨(i : Int), n⟩) ∨ ∃ j : Nat, j < r.length ∧ 0 ≤ r.getD j (-1) ∧ t = ⟨((i + 1 + j : Nat) : Int), r.getD j (-1)⟩ := by
      constructor
      · rintro ⟨j, h1, h2, h3⟩
        cases j with
        | zero => exact .inl ⟨h2, h3⟩
        | succ j =>
          simp only [List.length_cons, List.getD_cons_succ] at h1 h2 h3
          exact .inr ⟨j, by omega, h2, by rw [h3, (by omega : i + (j + 1) = i + 1 + j)]⟩
      · rintro (⟨h1, h2⟩ | ⟨j, h1, h2, h3⟩)
        · exact ⟨0, by simp, h1, h2⟩
        · exact ⟨j + 1, by simp; omega, by simpa using h2, by rw [h3, (by omega : i + (j + 1) = i + 1 + j)]; simp⟩
    rw [atomsO, key, ← ih]
    split
    · rename_i h
      simp [h]
    · rename_i h
      constructor
      · exact .inr
      · rintro (⟨h1, _⟩ | h1)
        · exact absurd h1 h
        · exact h1
theorem mem_atomsF {t : A} {f : F} : t ∈ atomsF f ↔ t = ⟨0, f.cst⟩ ∨ ∃ j : Nat, j < f.offs.length ∧ 0 ≤ f.offs.getD j (-1) ∧ t = ⟨((1 + j : Nat) : Int), f.offs.getD j (-1)⟩ := by
  unfold atomsF
  rw [List.mem_cons, mem_atomsO]
theorem atomsF_ne (f : F) : atomsF f ≠ [] := by simp [atomsF]
theorem valA_0 (p : List Int) (n : Int) : valA p ⟨0, n⟩ = n := by simp [valA]
theorem valA_s (p : List Int) (j : Nat) (n : Int) : valA p ⟨((1 + j : Nat) : Int), n⟩ = p.getD j 0 + n := by
  unfold valA
  have : (((1 + j : Nat) : Int)).toNat = j + 1 := by omega
  simp only [this, List.getD_cons_succ]
/-- A flat is the greatest of its atoms. -/
theorem vF_atoms {f : F} {p : List Int} (h : f.offs.length = p.length) (hb : ∀ i, -1 ≤ f.offs.getD i (-1)) (t : Int) : vF f p ≤ t ↔ ∀ x ∈ atomsF f, valA p x ≤ t := by
  rw [vF_le h]
  constructor
  · rintro ⟨h1, h2⟩ x hx
    rcases mem_atomsF.1 hx with rfl | ⟨j, j1, j2, rfl⟩
    · rw [valA_0]; exact h1
    · rw [valA_s]; exact h2 j (by omega)
  · intro hx
    refine ⟨by have := hx _ (mem_atomsF.2 (.inl rfl)); rwa [valA_0] at this, fun i hi => ?_⟩
    have hlt : i < f.offs.length := by
      by_cases hh : i < f.offs.length
      · exact hh
      · exact absurd (by simp [List.getElem?_eq_none (by omega : f.offs.length ≤ i)]) hi
    have := hx _ (mem_atomsF.2 (.inr ⟨i, hlt, by have := hb i; omega, rfl⟩))
    rwa [valA_s] at this
theorem vF_max {f : F} {p : List Int} (h : f.offs.length = p.length) (hb : ∀ i, -1 ≤ f.offs.getD i (-1)) : ∃ x ∈ atomsF f, valA p x = vF f p := by
  have h1 := (vF_atoms h hb (vF f p)).1 (Int.le_refl _)
  by_cases hh : ∃ x ∈ atomsF f, valA p x = vF f p
  · exact hh
  · have h2 : vF f p ≤ vF f p - 1 := (vF_atoms h hb _).2 fun x hx => by
      have h3 := h1 x hx
      have h4 : valA p x ≠ vF f p := fun e => hh ⟨x, hx, e⟩
      omega
    omega
/-- What is asked of a level in a case. -/
structure Flat1 (l : L) (z : List Bool) : Prop where
  len : (flattenF l z).offs.length = z.length
  bd : ∀ i, -1 ≤ (flattenF l z).offs.getD i (-1)
  zero : ∀ i, z.getD i false = true → (flattenF l z).offs.getD i (-1) = -1
theorem flat1 {l : L} {z : List Bool} (hr : RightS l z.length 0 = true) : Flat1 l z := by
  obtain ⟨hp, hr'⟩ := RightS_ok (q := 0) hr
  have hbd := ofS_bd l z 12 hr'
  refine ⟨flattenF_len hr, fun i => ?_, fun i hi => ?_⟩
  · have := hbd.getD (by omega) i
    unfold flattenF
    split <;> exact this.1
  · -- by values that fit
    have hF : Fits z (z.map fun b => if b then 0 else 1) := by
      refine ⟨by simp, fun j hj => ?_⟩
      have e : (z.map fun b => if b then (0 : Int) else 1).getD j 0 = if z.getD j false then 0 else 1 := by simp [hj]
      rw [e]
      cases z.getD j false <;> simp
    have := (of_val l z _ 12 hr' hF).2 i hi
    unfold flattenF
    split <;> exact this
theorem lv_atoms {l : L} {z : List Bool} {p : List Int} (hr : RightS l z.length 0 = true) (hF : Fits z p) (t : Int) : lvS l p [] ≤ t ↔ ∀ x ∈ atomsF (flattenF l z), valA p x ≤ t := by
  have h := flat1 hr
  rw [← flatten_val (RightS_ok (q := 0) hr).2 hF]
  exact vF_atoms (h.len.trans hF.1.symm) h.bd t
theorem lv_max {l : L} {z : List Bool} {p : List Int} (hr : RightS l z.length 0 = true) (hF : Fits z p) : ∃ x ∈ atomsF (flattenF l z), valA p x = lvS l p [] := by
  have h := flat1 hr
  rw [← flatten_val (RightS_ok (q := 0) hr).2 hF]
  exact vF_max (h.len.trans hF.1.symm) h.bd
/-- A model tells of values. -/
def RelM (M p : List Int) (z : List Bool) : Prop := ∀ t : A, (t.var = 0 ∨ ∃ i : Nat, t.var = ((1 + i : Nat) : Int) ∧ i < z.length ∧ z.getD i false = false) → atS M t = M.getD 0 0 - valA p t
theorem at_rel {M p : List Int} {z : List Bool} {l : L} (h : RelM M p z) (hr : RightS l z.length 0 = true) {t : A} (ht : t ∈ atomsF (flattenF l z)) : atS M t = M.getD 0 0 - valA p t := by
  have hf := flat1 hr
  rcases mem_atomsF.1 ht with rfl | ⟨j, j1, j2, rfl⟩
  · exact h _ (.inl rfl)
  · refine h _ (.inr ⟨j, rfl, by have := hf.len; omega, ?_⟩)
    cases hz : z.getD j false with
    | false => rfl
    | true => have := hf.zero j hz; omega
theorem holds1 {M : List Int} {c : C} (hne : c.frm ≠ []) : brokenC M c = false ↔ ∃ a ∈ c.frm, atS M a ≤ atS M c.to := by
  rw [holds_at]
  have e : asksS M c ≤ M.getD c.to.var.toNat 0 ↔ minS M c.frm ≤ atS M c.to := by
    unfold asksS atS
    omega
  rw [e]
  constructor
  · intro h
    obtain ⟨a, ha, h1⟩ := minS_mem M c.frm hne
    exact ⟨a, ha, by omega⟩
  · rintro ⟨a, ha, h⟩
    have := minS_le M c.frm a ha
    omega
theorem mem_clZ {c : C} : ∀ {z : List Bool} {i : Nat}, c ∈ clZ z i ↔ ∃ j : Nat, j < z.length ∧ z.getD j false = false ∧ c = ⟨[⟨((i + j : Nat) : Int), 0⟩], ⟨0, 1⟩⟩
  | [], i => by simp [clZ]
  | n :: r, i => by
    have ih := mem_clZ (c := c) (z := r) (i := i + 1)
    have key : (∃ j : Nat, j < (n :: r).length ∧ (n :: r).getD j false = false ∧ c = ⟨[⟨((i + j : Nat) : Int), 0⟩], ⟨0, 1⟩⟩) ↔ (n = false ∧ c = ⟨[⟨(i : Int), 0⟩], ⟨0, 1⟩⟩) ∨ ∃ j : Nat, j < r.length ∧ r.getD j false = false ∧ c = ⟨[⟨((i + 1 + j : Nat) : Int), 0⟩], ⟨0, 1⟩⟩ := by
      constructor
      · rintro ⟨j, h1, h2, h3⟩
        cases j with
        | zero => exact .inl ⟨h2, h3⟩
        | succ j =>
          simp only [List.length_cons, List.getD_cons_succ] at h1 h2
          exact .inr ⟨j, by omega, h2, by rw [h3, (by omega : i + (j + 1) = i + 1 + j)]⟩
      · rintro (⟨h1, h2⟩ | ⟨j, h1, h2, h3⟩)
        · exact ⟨0, by simp, h1, h2⟩
        · exact ⟨j + 1, by simp; omega, by simpa using h2, by rw [h3, (by omega : i + (j + 1) = i + 1 + j)]⟩
    rw [clZ, key, ← ih]
    cases n with
    | true => simp
    | false => simp
def RightK (n : Nat) (cs : List Kn) : Prop := ∀ c ∈ cs, RightS c.a n 0 = true ∧ RightS c.b n 0 = true
def HoldK (cs : List Kn) (p : List Int) : Prop := ∀ c ∈ cs, lvS c.a p [] ≤ lvS c.b p []
theorem holds_clZ {M p : List Int} {z : List Bool} (h : RelM M p z) : holdsC (clZ z 1) M ↔ ∀ i : Nat, i < z.length → z.getD i false = false → 1 ≤ p.getD i 0 := by
  have key : ∀ i : Nat, i < z.length → z.getD i false = false → (brokenC M ⟨[⟨((1 + i : Nat) : Int), 0⟩], ⟨0, 1⟩⟩ = false ↔ 1 ≤ p.getD i 0) := fun i hi hz => by
    rw [holds1 (by simp)]
    have h1 := h ⟨((1 + i : Nat) : Int), 0⟩ (.inr ⟨i, rfl, hi, hz⟩)
    have h2 := h ⟨0, 1⟩ (.inl rfl)
    rw [valA_s] at h1
    rw [valA_0] at h2
    simp only [List.mem_singleton, exists_eq_left]
    omega
  constructor
  · intro hh i hi hz
    exact (key i hi hz).1 (hh _ (mem_clZ.2 ⟨i, hi, hz, rfl⟩))
  · intro hh c hc
    obtain ⟨j, h1, h2, rfl⟩ := mem_clZ.1 hc
    exact (key j h1 h2).2 (hh j h1 h2)
theorem holds_clKn {M p : List Int} {z : List Bool} (h : RelM M p z) (hF : Fits z p) {c : Kn} (ha : RightS c.a z.length 0 = true) (hb : RightS c.b z.length 0 = true) : holdsC (clKn z c) M ↔ lvS c.a p [] ≤ lvS c.b p [] := by
  rw [lv_atoms ha hF]
  unfold holdsC clKn
  constructor
  · intro hh x hx
    have h1 := (holds1 (atomsF_ne _)).1 (hh _ (List.mem_map_of_mem hx))
    obtain ⟨b, hb1, hb2⟩ := h1
    simp only at hb1 hb2
    rw [at_rel h hb hb1, at_rel h ha hx] at hb2
    have := (lv_atoms hb hF _).1 (Int.le_refl _) b hb1
    omega
  · intro hh c' hc'
    obtain ⟨t, ht, rfl⟩ := List.mem_map.1 hc'
    obtain ⟨b, hb1, hb2⟩ := lv_max hb hF
    refine (holds1 (atomsF_ne _)).2 ⟨b, hb1, ?_⟩
    rw [at_rel h hb hb1]
    show _ ≤ atS M t
    rw [at_rel h ha ht]
    have := hh t ht
    omega
theorem holds_clU {M p : List Int} {z : List Bool} (h : RelM M p z) (hF : Fits z p) {cs : List Kn} (hr : RightK z.length cs) : holdsC (clU cs z) M ↔ HoldK cs p := by
  unfold clU
  rw [holds_app, holds_clZ h]
  constructor
  · rintro ⟨_, h2⟩ c hc
    exact (holds_clKn h hF (hr c hc).1 (hr c hc).2).1 fun c' h' => h2 c' (List.mem_flatMap.2 ⟨c, hc, h'⟩)
  · intro hh
    refine ⟨fun i hi hz => ?_, fun c' h' => ?_⟩
    · have := hF.2 i hi
      rwa [hz, if_neg (by simp)] at this
    · obtain ⟨c, hc, h'⟩ := List.mem_flatMap.1 h'
      exact (holds_clKn h hF (hr c hc).1 (hr c hc).2).2 (hh c hc) c' h'
theorem holds_more {M p : List Int} {z : List Bool} (h : RelM M p z) (hF : Fits z p) {a b : L} (ha : RightS a z.length 0 = true) (hb : RightS b z.length 0 = true) {x : A} (hx : x ∈ atomsF (flattenF a z)) :
    holdsC (moreU x (atomsF (flattenF b z))) M ↔ lvS b p [] < valA p x := by
  have e : lvS b p [] < valA p x ↔ lvS b p [] ≤ valA p x - 1 := by omega
  rw [e, lv_atoms hb hF]
  unfold holdsC moreU
  have key : ∀ y ∈ atomsF (flattenF b z), (brokenC M ⟨[x], ⟨y.var, y.off + 1⟩⟩ = false ↔ valA p y ≤ valA p x - 1) := fun y hy => by
    rw [holds1 (by simp)]
    simp only [List.mem_singleton, exists_eq_left]
    have h1 := at_rel h ha hx
    have h2 := at_rel h hb hy
    have h3 : atS M ⟨y.var, y.off + 1⟩ = atS M y - 1 := by unfold atS; simp only; omega
    rw [h3, h1, h2]
    omega
  constructor
  · intro hh y hy
    exact (key y hy).1 (hh _ (List.mem_map_of_mem hy))
  · intro hh c hc
    obtain ⟨y, hy, rfl⟩ := List.mem_map.1 hc
    exact (key y hy).2 (hh y hy)
/-- The clauses may be. -/
theorem okC_clU {cs : List Kn} {z : List Bool} (hg : GoodKs cs z) : ∀ c ∈ clU cs z, okC ((z.length + 1 : Nat) : Int) c = true := by
  have atm : ∀ {l : L}, RightS l z.length 0 = true → ∀ t ∈ atomsF (flattenF l z), okA ((z.length + 1 : Nat) : Int) t = true := fun hr t ht => by
    have := atomsF_bd hr t ht
    simp [okA]
    omega
  intro c hc
  rcases List.mem_append.1 hc with h | h
  · obtain ⟨j, h1, h2, rfl⟩ := mem_clZ.1 h
    simp [okC, manyC, okA]
    omega
  · obtain ⟨k, hk, h⟩ := List.mem_flatMap.1 h
    obtain ⟨t, ht, rfl⟩ := List.mem_map.1 h
    obtain ⟨hok, hra, hrb⟩ := hg.2.2 k hk
    have h6 := clU_frm hg _ hc
    simp only at h6
    have h1 : 0 < (atomsF (flattenF k.b z)).length := List.length_pos_iff.2 (atomsF_ne _)
    simp only [okC, manyC, Bool.and_eq_true, Bool.not_eq_true', Bool.or_eq_false_iff, decide_eq_false_iff_not]
    refine ⟨⟨by omega, by omega⟩, List.all_eq_true.2 fun x hx => ?_⟩
    rcases List.mem_append.1 hx with h | h
    · exact atm hrb x h
    · rw [List.mem_singleton.1 h]; exact atm hra t ht
theorem okC_more {a b : L} {z : List Bool} (hra : RightS a z.length 0 = true) (hrb : RightS b z.length 0 = true) {x : A} (hx : x ∈ atomsF (flattenF a z)) : ∀ c ∈ moreU x (atomsF (flattenF b z)), okC ((z.length + 1 : Nat) : Int) c = true := by
  intro c hc
  obtain ⟨y, hy, rfl⟩ := List.mem_map.1 hc
  have h1 := atomsF_bd hra x hx
  have h2 := atomsF_bd hrb y hy
  simp [okC, manyC, okA]
  omega
theorem right_clU {cs : List Kn} {z : List Bool} (hg : GoodKs cs z) {l : List C} (hl : l.length ≤ 6) (hok : ∀ c ∈ l, okC ((z.length + 1 : Nat) : Int) c = true) : rightC ((z.length + 1 : Nat) : Int) (clU cs z ++ l) = true := by
  have hcl := pre_len hg cs.length
  rw [List.take_length] at hcl
  have hcl2 : (clU cs z).length ≤ 53 := hcl
  have h5 := hg.1
  simp only [rightC, Bool.and_eq_true, decide_eq_true_eq, List.length_append]
  refine ⟨⟨⟨by omega, by omega⟩, by omega⟩, List.all_eq_true.2 fun c hc => ?_⟩
  rcases List.mem_append.1 hc with h | h
  · exact okC_clU hg c h
  · exact hok c h
/-- Where there is a model there are values, and the other way round. -/
def modelP (K : Int) (p : List Int) : List Int := K :: p.map fun v => K - v
theorem modelP_rel {K : Int} {p : List Int} {z : List Bool} (h : p.length = z.length) : RelM (modelP K p) p z := by
  rintro ⟨v, o⟩ (rfl | ⟨i, rfl, hi, _⟩)
  · rw [valA_0]; simp [modelP, atS]
  · rw [valA_s]
    have : (((1 + i : Nat) : Int)).toNat = i + 1 := by omega
    simp only [atS, modelP, this, List.getD_cons_succ, List.getD_cons_zero]
    have e : (p.map fun v => K - v).getD i 0 = K - p.getD i 0 := by simp [h, hi]
    rw [e]
    omega
theorem valsZ_at {M : List Int} {z : List Bool} {i : Nat} (hi : i < z.length) : (valsZ M z).getD i 0 = if z.getD i false = true then 0 else M.getD 0 0 - M.getD (i + 1) 0 := by
  simp [valsZ, hi]
theorem valsZ_rel (M : List Int) (z : List Bool) : RelM M (valsZ M z) z := by
  rintro ⟨v, o⟩ (rfl | ⟨i, rfl, hi, hz⟩)
  · rw [valA_0]; simp [atS]
  · rw [valA_s, valsZ_at hi, hz, if_neg (by simp)]
    have : (((1 + i : Nat) : Int)).toNat = i + 1 := by omega
    simp only [atS, this]
    omega
theorem okU_vals {cs : List Kn} {z : List Bool} (hg : GoodKs cs z) {l : List C} {v : List Int} (h : valO z (clU cs z ++ l) = some v) : ∃ M, v = valsZ M z ∧ RelM M v z ∧ Fits z v ∧ HoldK cs v ∧ holdsC l M := by
  unfold valO at h
  split at h
  · rename_i hok
    cases h
    unfold valsU
    rw [if_pos hok]
    have hok2 := hok
    unfold okU at hok2
    simp only [Bool.and_eq_true] at hok2
    obtain ⟨r1, r2, r3, r4⟩ := right_ok hok2.1
    rcases solve_spec (n := z.length + 1) (by omega) r4 with ⟨_, hL, _⟩ | ⟨h1, _⟩
    · have hrel := valsZ_rel (solveC (z.length + 1) (clU cs z ++ l)).1 z
      have hH := hL.holds
      rw [holds_app] at hH
      have hK : RightK z.length cs := fun c hc => (hg.2.2 c hc).2
      generalize (solveC (z.length + 1) (clU cs z ++ l)).1 = M at *
      have hz1 : holdsC (clZ z 1) M := fun c hc => hH.1 c (List.mem_append_left _ hc)
      have hp1 := (holds_clZ hrel).1 hz1
      have hF : Fits z (valsZ M z) := by
        refine ⟨by simp [valsZ], fun i hi => ?_⟩
        cases hz : z.getD i false with
        | true => rw [if_pos rfl, valsZ_at hi, hz, if_pos rfl]
        | false => rw [if_neg (by simp)]; exact hp1 i hi hz
      exact ⟨M, rfl, hrel, hF, (holds_clU hrel hF hK).1 hH.1, hH.2⟩
    · rw [h1] at hok2; cases hok2.2
  · cases h
theorem sum_ge : ∀ {p : List Int}, (∀ i : Nat, 0 ≤ p.getD i 0) → 0 ≤ p.sum ∧ ∀ v ∈ p, v ≤ p.sum
  | [], _ => by simp
  | a :: r, h => by
    have ih := sum_ge (p := r) fun i => by simpa using h (i + 1)
    have h0 : 0 ≤ a := by simpa using h 0
    simp only [List.sum_cons]
    refine ⟨by omega, fun v hv => ?_⟩
    rcases List.mem_cons.1 hv with rfl | hv
    · omega
    · have := ih.2 v hv; omega
theorem vals_okU {cs : List Kn} {z : List Bool} (hg : GoodKs cs z) {l : List C} (hl : l.length ≤ 6) (hok : ∀ c ∈ l, okC ((z.length + 1 : Nat) : Int) c = true) {p : List Int} (hF : Fits z p) (hp : ∀ i : Nat, 0 ≤ p.getD i 0) (hK : HoldK cs p) (hh : ∀ M, RelM M p z → holdsC l M) : valO z (clU cs z ++ l) ≠ none := by
  intro hn
  have hr := right_clU hg hl hok
  obtain ⟨r1, r2, r3, r4⟩ := right_ok hr
  have hrel := modelP_rel (K := p.sum) hF.1
  have hk : RightK z.length cs := fun c hc => (hg.2.2 c hc).2
  have hM : holdsC (clU cs z ++ l) (modelP p.sum p) := holds_app.2 ⟨(holds_clU hrel hF hk).2 hK, hh _ hrel⟩
  unfold valO okU at hn
  rw [hr, Bool.true_and] at hn
  split at hn
  · cases hn
  · rename_i h1
    have h2 : (solveC (z.length + 1) (clU cs z ++ l)).2.1 = false := by simpa using h1
    have hs := sum_ge hp
    refine (solve_iff (n := z.length + 1) (by omega) r4).1 h2 (modelP p.sum p) (by simp [modelP, hF.1]) (fun i => ?_) hM
    cases i with
    | zero => simpa [modelP] using hs.1
    | succ i =>
      unfold modelP
      rw [List.getD_cons_succ]
      by_cases hi : i < p.length
      · have := hs.2 p[i] (List.getElem_mem hi)
        simp [hi]
        omega
      · simp [List.getElem?_eq_none (by simpa using hi : (p.map fun v => p.sum - v).length ≤ i)]
end Pi


set_option linter.unusedSimpArgs false
set_option linter.unusedVariables false
namespace Pi
theorem firstU_some2 {f : Nat → Option (List Int)} {N : Nat} {v : List Int} (h : firstU f N = some v) : ∃ k, k < N ∧ f k = some v := by
  unfold firstU at h
  obtain ⟨k, hk, h1⟩ := List.exists_of_findSome?_eq_some h
  exact ⟨k, by simpa using hk, h1⟩
theorem firstU_no {f : Nat → Option (List Int)} {N : Nat} (h : firstU f N = none) {k : Nat} (hk : k < N) : f k = none := by
  unfold firstU at h
  exact List.findSome?_eq_none_iff.1 h k (by simpa using hk)
def bitN (v : Int) : Nat := if v = 0 then 1 else 0
theorem case3U {p : List Int} (hl : p.length = 3) (hp : ∀ i : Nat, 0 ≤ p.getD i 0) : ∃ k, k < 2 ^ 3 ∧ Fits (caseP k 3) p := by
  have key : ∀ a b c : Nat, a ≤ 1 → b ≤ 1 → c ≤ 1 → caseP (a + 2 * b + 4 * c) 3 = [decide (a = 1), decide (b = 1), decide (c = 1)] := by
    intro a b c h1 h2 h3
    rcases (by omega : a = 0 ∨ a = 1) with rfl | rfl <;> rcases (by omega : b = 0 ∨ b = 1) with rfl | rfl <;> rcases (by omega : c = 0 ∨ c = 1) with rfl | rfl <;> decide
  have b1 : ∀ v : Int, bitN v ≤ 1 := fun v => by unfold bitN; split <;> omega
  refine ⟨bitN (p.getD 0 0) + 2 * bitN (p.getD 1 0) + 4 * bitN (p.getD 2 0), by have := b1 (p.getD 0 0); have := b1 (p.getD 1 0); have := b1 (p.getD 2 0); omega, ?_⟩
  rw [key _ _ _ (b1 _) (b1 _) (b1 _)]
  refine ⟨by simpa using hl, fun i hi => ?_⟩
  have one : ∀ v : Int, 0 ≤ v → if decide (bitN v = 1) = true then v = 0 else 1 ≤ v := fun v hv => by
    unfold bitN
    split <;> simp <;> omega
  have h3 : i = 0 ∨ i = 1 ∨ i = 2 := by simp at hi; omega
  rcases h3 with rfl | rfl | rfl
  · exact one _ (hp 0)
  · exact one _ (hp 1)
  · exact one _ (hp 2)
structure Vals (cs : List Kn) (v : List Int) : Prop where
  len : v.length = 3
  nat : ∀ i : Nat, 0 ≤ v.getD i 0 ∧ v.getD i 0 ≤ 1000000
  hold : HoldK cs v
theorem valO_bd {z : List Bool} (hz : z.length ≤ 5) {l : List C} {v : List Int} (h : valO z l = some v) (i : Nat) : v.getD i 0 ≤ 1000000 := by
  unfold valO at h
  split at h
  · rename_i hk
    cases h
    have hm := model_bd hz hk
    unfold valsU
    rw [if_pos hk]
    generalize (solveC (z.length + 1) l).1 = M at *
    by_cases hi : i < z.length
    · rw [valsZ_at hi]
      have h0 := hm.2 0
      have h1 := hm.2 (i + 1)
      split <;> omega
    · have : (valsZ M z).getD i 0 = 0 := by
        rw [List.getD_eq_getElem?_getD, List.getElem?_eq_none (by simp [valsZ]; omega)]
        rfl
      omega
  · cases h
theorem fits_nat {z : List Bool} {v : List Int} (h : Fits z v) (i : Nat) : 0 ≤ v.getD i 0 := by
  by_cases hi : i < z.length
  · have := h.2 i hi
    split at this <;> omega
  · have hl := h.1
    simp [List.getElem?_eq_none (by omega : v.length ≤ i)]
theorem leq_some {cs : List Kn} (hg : ∀ z : List Bool, z.length = 3 → GoodKs cs z) {a b : L} (ha : RightS a (3 : Nat) 0 = true) (hb : RightS b (3 : Nat) 0 = true) {v : List Int} (h : leqU cs a b 3 = some v) : Vals cs v ∧ lvS b v [] < lvS a v [] := by
  obtain ⟨k, _, h1⟩ := firstU_some2 h
  have hgk := hg (caseP k 3) (caseP_len k 3)
  have ha' : RightS a (caseP k 3).length 0 = true := by rw [caseP_len]; exact ha
  have hb' : RightS b (caseP k 3).length 0 = true := by rw [caseP_len]; exact hb
  obtain ⟨x, hx, h2⟩ := List.exists_of_findSome?_eq_some h1
  obtain ⟨M, _, hrel, hF, hK, hM⟩ := okU_vals hgk h2
  have h3 := (holds_more hrel hF ha' hb' hx).1 hM
  have h4 := (lv_atoms ha' hF _).1 (Int.le_refl _) x hx
  exact ⟨⟨by rw [hF.1, caseP_len], fun i => ⟨fits_nat hF i, valO_bd (by rw [caseP_len]; omega) h2 i⟩, hK⟩, by omega⟩
theorem leq_none {cs : List Kn} (hg : ∀ z : List Bool, z.length = 3 → GoodKs cs z) {a b : L} (ha : RightS a (3 : Nat) 0 = true) (hb : RightS b (3 : Nat) 0 = true) (h : leqU cs a b 3 = none) {p : List Int} (hl : p.length = 3) (hp : ∀ i : Nat, 0 ≤ p.getD i 0) (hK : HoldK cs p) : lvS a p [] ≤ lvS b p [] := by
  obtain ⟨k, hk, hF⟩ := case3U hl hp
  have h1 := firstU_no h hk
  have hgk := hg (caseP k 3) (caseP_len k 3)
  have ha' : RightS a (caseP k 3).length 0 = true := by rw [caseP_len]; exact ha
  have hb' : RightS b (caseP k 3).length 0 = true := by rw [caseP_len]; exact hb
  by_cases hlt : lvS a p [] ≤ lvS b p []
  · exact hlt
  · exfalso
    obtain ⟨x, hx, hxe⟩ := lv_max ha' hF
    have h2 := List.findSome?_eq_none_iff.1 h1 x hx
    refine vals_okU hgk ?_ (okC_more ha' hb' hx) hF hp hK (fun M hrel => (holds_more hrel hF ha' hb' hx).2 (by omega)) h2
    rw [moreU_len]
    have := atomsF_len (flattenF b (caseP k 3))
    rw [flattenF_len hb', caseP_len] at this
    omega
end Pi


set_option linter.unusedSimpArgs false
set_option linter.unusedVariables false
namespace Pi
end Pi


set_option linter.unusedSimpArgs false
set_option linter.unusedVariables false
namespace Pi
theorem ref07_Leq.a (a b : L) (oka : a.Ok) (okb : b.Ok) (p : Int) : Ans ctx ref07_Leq.n [.ag (cL a), .ag (cL b), .i .i64 p] (leqV a b p) := by
  refine ans ref07_Leq.f ?_
  have hA := ref07_Cases.a a oka p
  have hB := ref07_Cases.a b okb p
  unfold casesV at hA hB
  unfold leqV
  cases h1 : RightS a p 0 with
  | false =>
    rw [h1] at hA
    cases h2 : RightS b p 0 with
    | false =>
      rw [h2] at hB
      simp +contextual (disch := omega) [Nat.add_assoc, Int.add_assoc, if_pos, if_neg, -Int.not_lt, -Int.not_le, -Nat.not_lt, -Nat.not_le, -List.length_flatMap, ref07_Leq.c, ansK hA, ansK hB]
    | true =>
      rw [h2] at hB
      simp +contextual (disch := omega) [Nat.add_assoc, Int.add_assoc, if_pos, if_neg, -Int.not_lt, -Int.not_le, -Nat.not_lt, -Nat.not_le, -List.length_flatMap, ref07_Leq.c, ansK hA, ansK hB]
  | true =>
    rw [h1, if_pos rfl] at hA
    cases h2 : RightS b p 0 with
    | false =>
      rw [h2] at hB
      simp +contextual (disch := omega) [Nat.add_assoc, Int.add_assoc, if_pos, if_neg, -Int.not_lt, -Int.not_le, -Nat.not_lt, -Nat.not_le, -List.length_flatMap, ref07_Leq.c, ansK hA, ansK hB]
    | true =>
      rw [h2, if_pos rfl] at hB
      have hp := RightS_p h1
      obtain ⟨n, rfl⟩ : ∃ n : Nat, p = n := ⟨p.toNat, by omega⟩
      have hn5 : n ≤ 5 := by omega
      have h32 := pow32 hn5
      have hl1 := casesF_len a n
      have hl2 := casesF_len b n
      obtain ⟨N, hN⟩ : ∃ N, N = 2 ^ n := ⟨_, rfl⟩
      rw [← hN] at hl1 hl2 h32
      obtain ⟨R, hR⟩ : ∃ R, R = leqR a b n := ⟨_, rfl⟩
      have hnn : ((n : Int)).toNat = n := by omega
      rw [hnn] at hA hB ⊢
      rw [← hR]
      simp +contextual (disch := omega) [Nat.add_assoc, Int.add_assoc, if_pos, if_neg, -Int.not_lt, -Int.not_le, -Nat.not_lt, -Nat.not_le, -List.length_flatMap, ref07_Leq.c, ansK hA, ansK hB]
      refine for_w (fun k e m x => e 2 = .i .i64 n ∧ e 9 = sV cF (casesF a n) ∧ e 11 = sV cF (casesF b n) ∧ e 13 = .i .i64 k ∧ badAt (casesF a n) (casesF b n) 0 = badAt ((casesF a n).drop k) ((casesF b n).drop k) k) N ?_ ?_ ?_
      · simp +contextual (disch := omega) [Nat.add_assoc, Int.add_assoc, if_pos, if_neg, -Int.not_lt, -Int.not_le, -Nat.not_lt, -Nat.not_le, -List.length_flatMap]
      · rintro k e m x hk ⟨q2, q9, q11, q13, qb⟩
        have hk2 : k < 2 ^ n := by omega
        have hC := ref07_Case.a k n (by omega) hn5
        have fa := flatten_len (l := a) (Z := caseP k n) (by rw [caseP_len]; exact h1)
        have fb := flatten_len (l := b) (Z := caseP k n) (by rw [caseP_len]; exact h2)
        have hag := ref07_against.a _ _ _ fa.2 fb.2 fa.1 fb.1
        have hLe := ref06_Leq.a (flattenF a (caseP k n)) (flattenF b (caseP k n)) (by rw [fa.1, caseP_len]; omega) (by rw [fb.1, caseP_len]; omega)
        have hla : leqAt a b n k = againstS (flattenF a (caseP k n)) (flattenF b (caseP k n)) (caseP k n) := rfl
        rw [← hla] at hag
        rw [badAt_step hk2] at qb
        have e1 : (casesF a n)[k]? = some (flattenF a (caseP k n)) := by rw [List.getElem?_eq_getElem (by omega), casesF_at hk2]
        have e2 : (casesF b n)[k]? = some (flattenF b (caseP k n)) := by rw [List.getElem?_eq_getElem (by omega), casesF_at hk2]
        have e1' : (casesF a n)[k]'(by omega) = flattenF a (caseP k n) := casesF_at hk2 _
        have e2' : (casesF b n)[k]'(by omega) = flattenF b (caseP k n) := casesF_at hk2 _
        clear hla
        generalize flattenF a (caseP k n) = f at *
        generalize flattenF b (caseP k n) = g at *
        generalize caseP k n = Z at *
        cases hlq : leqF f g with
        | true =>
          rw [hlq] at hLe
          rw [hlq, if_pos rfl] at qb
          simp +contextual (disch := omega) [Nat.add_assoc, Int.add_assoc, if_pos, if_neg, -Int.not_lt, -Int.not_le, -Nat.not_lt, -Nat.not_le, -List.length_flatMap, ref07_Leq.b1, q2, q9, q11, q13, hl1, hl2, hk, e1, e2, e1', e2', ansK hLe]
          exact qb
        | false =>
          rw [hlq] at hLe
          rw [hlq, if_neg (by simp)] at qb
          have hR2 : R = .tu [.b false, sV cI (leqAt a b n k), .i .i64 0] := by rw [hR]; unfold leqR; rw [qb]
          simp +contextual (disch := omega) [Nat.add_assoc, Int.add_assoc, if_pos, if_neg, -Int.not_lt, -Int.not_le, -Nat.not_lt, -Nat.not_le, -List.length_flatMap, ref07_Leq.b1, q2, q9, q11, q13, hl1, hl2, hk, e1, e2, e1', e2', ansK hLe, ansK hC, ansK hag, hR2]
      · rintro e m x ⟨q2, q9, q11, q13, qb⟩
        have hNo : badAt (casesF a n) (casesF b n) 0 = none := by rw [qb]; exact badAt_end (by omega)
        have hR2 : R = .tu [.b true, sV cI [], .i .i64 0] := by rw [hR]; unfold leqR; rw [hNo]
        simp +contextual (disch := omega) [Nat.add_assoc, Int.add_assoc, if_pos, if_neg, -Int.not_lt, -Int.not_le, -Nat.not_lt, -Nat.not_le, -List.length_flatMap, ref07_Leq.b1, q2, q9, q11, q13, hl1, hl2, hR2]
def leqB (a b : L) (n : Nat) : Bool := (badAt (casesF a n) (casesF b n) 0).isNone
theorem leqR_eq (a b : L) (n : Nat) : ∃ v, leqR a b n = .tu [.b (leqB a b n), sV cI v, .i .i64 0] ∧ v.length ≤ n ∧ (leqB a b n = true → v = []) := by
  unfold leqR leqB
  cases h : badAt (casesF a n) (casesF b n) 0 with
  | none => exact ⟨[], rfl, by simp, fun _ => rfl⟩
  | some k => exact ⟨_, rfl, by unfold leqAt; rw [againstS_len, caseP_len]; exact Nat.le_refl _, fun h => by simp at h⟩
theorem bad_none : ∀ {x y : List F} {i : Nat}, x.length = y.length → (badAt x y i = none ↔ ∀ (j : Nat) (h1 : j < x.length) (h2 : j < y.length), leqF x[j] y[j] = true)
  | [], [], i, _ => by simp [badAt]
  | [], _ :: _, _, h => by simp at h
  | _ :: _, [], _, h => by simp at h
  | a :: x, b :: y, i, h => by
    have ih := bad_none (x := x) (y := y) (i := i + 1) (by simpa using h)
    rw [badAt]
    constructor
    · intro h3 j h1 h2
      split at h3
      · cases j with
        | zero => assumption
        | succ j => exact ih.1 h3 j (by simpa using h1) (by simpa using h2)
      · cases h3
    · intro h3
      have h0 : leqF a b = true := h3 0 (by simp) (by simp)
      rw [if_pos h0]
      exact ih.2 fun j h1 h2 => h3 (j + 1) (by simpa using h1) (by simpa using h2)
theorem leqB_iff {a b : L} {n : Nat} : leqB a b n = true ↔ ∀ k, k < 2 ^ n → leqF (flattenF a (caseP k n)) (flattenF b (caseP k n)) = true := by
  have h1 := casesF_len a n
  have h2 := casesF_len b n
  unfold leqB
  rw [Option.isNone_iff_eq_none, bad_none (by omega)]
  constructor
  · intro h k hk
    have := h k (by omega) (by omega)
    rwa [casesF_at hk, casesF_at hk] at this
  · intro h k q1 q2
    rw [casesF_at (by omega), casesF_at (by omega)]
    exact h k (by omega)
end Pi


set_option linter.unusedSimpArgs false
set_option linter.unusedVariables false
namespace Pi
end Pi


set_option linter.unusedSimpArgs false
set_option linter.unusedVariables false
namespace Pi
def wP : L := .mk 5 0 []
def wQ : L := .mk 5 1 []
def wS : L := .mk 2 0 [wP]
def wT : L := .mk 2 0 [wQ]
theorem aw1 : leqOU [⟨wP, wQ⟩] 2 wP wT = none ∧ leqBU [⟨wP, wQ⟩] 2 wP wT = true ∧ leqEU [⟨wP, wQ⟩] 2 wP wT = 0 := ⟨by kernel_rfl, by kernel_rfl, by kernel_rfl⟩
theorem aw2 : leqOU [⟨wP, wQ⟩] 2 wS wQ = some [1, 1] ∧ leqBU [⟨wP, wQ⟩] 2 wS wQ = false ∧ leqEU [⟨wP, wQ⟩] 2 wS wQ = 0 := ⟨by kernel_rfl, by kernel_rfl, by kernel_rfl⟩
theorem aw3 : possV [⟨wP, wQ⟩, ⟨wT, wP⟩] 2 = .tu [.b false, sV cI [], .i .i64 0] := by kernel_rfl
theorem aw4 : possV [⟨wP, wQ⟩] 2 = .tu [.b true, sV cI [1, 1], .i .i64 0] := by kernel_rfl
theorem aw5 : leqOU [⟨wP, wQ⟩] 1 wP wP = none ∧ leqBU [⟨wP, wQ⟩] 1 wP wP = false ∧ leqEU [⟨wP, wQ⟩] 1 wP wP = 1 := ⟨by kernel_rfl, by kernel_rfl, by kernel_rfl⟩
theorem aw6 : RightU [⟨wP, wQ⟩] 2 = true := by kernel_rfl
theorem aw7 : RightU [⟨wP, wQ⟩] 6 = false := by kernel_rfl
theorem L_ok0 (k n : Int) (hk : 0 ≤ k ∧ k ≤ 10) (hn : 0 ≤ n ∧ n ≤ 10) : (L.mk k n []).Ok := .mk (by simp) (by omega) (by omega) (by simp)
theorem wP_ok : wP.Ok := L_ok0 5 0 (by omega) (by omega)
theorem wQ_ok : wQ.Ok := L_ok0 5 1 (by omega) (by omega)
theorem wS_ok : wS.Ok := .mk (by simp) (by omega) (by omega) (by simpa using wP_ok)
theorem wT_ok : wT.Ok := .mk (by simp) (by omega) (by omega) (by simpa using wQ_ok)
theorem kn1 : ∀ c ∈ [(⟨wP, wQ⟩ : Kn)], c.Ok := fun c h => by rw [List.mem_singleton.1 h]; exact ⟨wP_ok, wQ_ok⟩
theorem kn2 : ∀ c ∈ [(⟨wP, wQ⟩ : Kn), ⟨wT, wP⟩], c.Ok := fun c h => by
  rcases List.mem_cons.1 h with rfl | h
  · exact ⟨wP_ok, wQ_ok⟩
  · rw [List.mem_singleton.1 h]; exact ⟨wT_ok, wP_ok⟩
def wC : List V := V.i .i64 5 :: V.i .i64 0 :: V.sl [] 0 :: cL (L.mk 5 1 [])
def wD : List V := V.i .i64 5 :: V.i .i64 0 :: V.sl [] 0 :: V.i .i64 5 :: V.i .i64 1 :: V.sl [] 0 :: V.i .i64 2 :: V.i .i64 0 :: V.sl (cL (L.mk 5 1 [])) 1 :: cL (L.mk 5 0 [])
theorem wD_eq : sV cK [⟨wP, wQ⟩, ⟨wT, wP⟩] = V.sl wD 2 := rfl
theorem wC_eq : sV cK [⟨wP, wQ⟩] = V.sl wC 1 := rfl
set_option maxRecDepth 20000 in
set_option maxHeartbeats 2000000 in
theorem law12_awake.a : Ans ctx law12_awake.n [] (.b true) := by
  refine ans law12_awake.f ?_
  have h1 : AnsF ctx under_Leq.n [V.sl wC 1, .i .i64 2, .ag (cL (L.mk 5 0 [])), .ag (cL (L.mk 2 0 [L.mk 5 1 []]))] (fun x => .tu [.b true, .ns, .i .i64 0]) none := by
    have h := under_Leq.r [⟨wP, wQ⟩] kn1 (by simp) 2 wP wT wP_ok wT_ok
    rw [aw1.1, aw1.2.1, aw1.2.2] at h
    exact h
  have h2 : AnsF ctx under_Leq.n [V.sl wC 1, .i .i64 2, .ag (cL (L.mk 2 0 [L.mk 5 0 []])), .ag (cL (L.mk 5 1 []))] (fun x => .tu [.b false, .ms x 0 2 1, .i .i64 0]) (some ([1, 1].flatMap cI)) := by
    have h := under_Leq.r [⟨wP, wQ⟩] kn1 (by simp) 2 wS wQ wS_ok wQ_ok
    rw [aw2.1, aw2.2.1, aw2.2.2] at h
    exact h
  have h4 : Ans ctx under_Possible.n [V.sl wC 1, .i .i64 2] (.tu [.b true, sV cI [1, 1], .i .i64 0]) := by rw [← wC_eq, ← aw4]; exact under_Possible.a [⟨wP, wQ⟩] kn1 (by simp) 2
  have h5 : AnsF ctx under_Leq.n [V.sl wC 1, .i .i64 1, .ag (cL (L.mk 5 0 [])), .ag (cL (L.mk 5 0 []))] (fun x => .tu [.b false, .ns, .i .i64 1]) none := by
    have h := under_Leq.r [⟨wP, wQ⟩] kn1 (by simp) 1 wP wP wP_ok wP_ok
    rw [aw5.1, aw5.2.1, aw5.2.2] at h
    exact h
  have h6 : Ans ctx under_Right.n [V.sl wC 1, .i .i64 2] (.b true) := by rw [← wC_eq, ← aw6]; exact under_Right.a [⟨wP, wQ⟩] kn1 (by simp) 2
  have h7 : Ans ctx under_Right.n [V.sl wC 1, .i .i64 6] (.b false) := by rw [← wC_eq, ← aw7]; exact under_Right.a [⟨wP, wQ⟩] kn1 (by simp) 6
  have h3 : Ans ctx under_Possible.n [V.sl wD 2, .i .i64 2] (.tu [.b false, sV cI [], .i .i64 0]) := by rw [← wD_eq, ← aw3]; exact under_Possible.a [⟨wP, wQ⟩, ⟨wT, wP⟩] kn2 (by simp) 2
  unfold wC at h1 h2 h4 h5 h6 h7
  unfold wD at h3
  have hI : Ans ctx ref08_Ints.n [V.sl [V.i .i64 1, V.i .i64 1] 2, V.sl [V.i .i64 1, V.i .i64 1] 2] (.b true) := ref08_Ints.a [1, 1] [1, 1] (by simp)
  have e11 : sV cI [1, 1] = V.sl [V.i .i64 1, V.i .i64 1] 2 := rfl
  simp +contextual (disch := omega) [Nat.add_assoc, Int.add_assoc, if_pos, if_neg, -Int.not_lt, -Int.not_le, -Nat.not_lt, -Nat.not_le, -List.length_flatMap, law12_awake.c]
  refine under_Leq.fr ?_
  simp +contextual (disch := omega) [Nat.add_assoc, Int.add_assoc, if_pos, if_neg, -Int.not_lt, -Int.not_le, -Nat.not_lt, -Nat.not_le, -List.length_flatMap]
  refine ansFK h1 ?_
  simp +contextual (disch := omega) [Nat.add_assoc, Int.add_assoc, if_pos, if_neg, -Int.not_lt, -Int.not_le, -Nat.not_lt, -Nat.not_le, -List.length_flatMap]
  refine under_Leq.fr ?_
  simp +contextual (disch := omega) [Nat.add_assoc, Int.add_assoc, if_pos, if_neg, -Int.not_lt, -Int.not_le, -Nat.not_lt, -Nat.not_le, -List.length_flatMap]
  refine ansFK h2 ?_
  simp +contextual (disch := omega) [Nat.add_assoc, Int.add_assoc, if_pos, if_neg, -Int.not_lt, -Int.not_le, -Nat.not_lt, -Nat.not_le, -List.length_flatMap, ansK h3, ansK h4]
  refine under_Leq.fr ?_
  simp +contextual (disch := omega) [Nat.add_assoc, Int.add_assoc, if_pos, if_neg, -Int.not_lt, -Int.not_le, -Nat.not_lt, -Nat.not_le, -List.length_flatMap]
  refine ansFK h5 ?_
  have hsc : (V.tu [V.b true, V.sl [V.i .i64 1, V.i .i64 1] 2, V.i .i64 0]).scal = false := rfl
  simp +contextual (disch := omega) [Nat.add_assoc, Int.add_assoc, if_pos, if_neg, -Int.not_lt, -Int.not_le, -Nat.not_lt, -Nat.not_le, -List.length_flatMap, ansK h6, ansK h7, ansK hI, e11, hsc]
end Pi


set_option linter.unusedSimpArgs false
set_option linter.unusedVariables false
namespace Pi
end Pi


set_option linter.unusedSimpArgs false
set_option linter.unusedVariables false
namespace Pi
end Pi


set_option linter.unusedSimpArgs false
set_option linter.unusedVariables false
namespace Pi
end Pi


set_option linter.unusedSimpArgs false
set_option linter.unusedVariables false
namespace Pi
theorem frzL_un {D : Nat → Option (Bool × List V × List V × List Nat)} {v : V} {r w : List V} {ids : List Nat} (h : frzL D (v :: r) = some (w, ids)) : ∃ u z i j, w = u :: z ∧ frzW D v = some (u, i) ∧ frzL D r = some (z, j) := by
  rw [frzL_cons] at h
  cases h1 : frzW D v with
  | none => rw [h1] at h; simp at h
  | some p =>
    cases h2 : frzL D r with
    | none => rw [h1, h2] at h; simp at h
    | some q =>
      rw [h1, h2] at h
      simp at h
      exact ⟨p.1, q.1, p.2, q.2, h.1.symm, rfl, rfl⟩
theorem FzAt.tail {m : Sto} {lo x k : Nat} {v u : V} {r z : List V} (h : FzAt m lo x k (v :: r) (u :: z)) : (∀ m' : Sto, (∀ j, lo ≤ j → j < x → m' j = m j) → ∀ d, k ≤ d → ∃ ids, frzW (der m' d) v = some (u, ids)) ∧ FzAt m lo x k r z := by
  constructor
  · intro m' hm d hd
    obtain ⟨ids, h0⟩ := h m' hm d hd
    obtain ⟨u', z', i, j, e, h1, h2⟩ := frzL_un h0
    injection e with e1 e2
    exact ⟨i, by rw [h1, e1]⟩
  · intro m' hm d hd
    obtain ⟨ids, h0⟩ := h m' hm d hd
    obtain ⟨u', z', i, j, e, h1, h2⟩ := frzL_un h0
    injection e with e1 e2
    exact ⟨j, by rw [h2, e2]⟩
end Pi


set_option linter.unusedSimpArgs false
set_option linter.unusedVariables false
namespace Pi
/-- So many constraints that a maker makes, and how many it has picked then. -/
def consS (l : List Nat) (p : Nat) : Nat → Nat → List Kn × Nat
  | 0, i => ([], i)
  | k + 1, i => (⟨(mkS l p 0 3 i).1, (mkS l p 0 3 (mkS l p 0 3 i).2).1⟩ :: (consS l p k (mkS l p 0 3 (mkS l p 0 3 i).2).2).1, (consS l p k (mkS l p 0 3 (mkS l p 0 3 i).2).2).2)
theorem consS_len (l : List Nat) (p : Nat) : ∀ k i, (consS l p k i).1.length = k
  | 0, i => rfl
  | k + 1, i => by simp [consS, consS_len l p k]
theorem consS_ok (l : List Nat) (p : Nat) (hp : p ≤ 256) : ∀ k i, ∀ c ∈ (consS l p k i).1, c.Ok
  | 0, i, c, h => by cases h
  | k + 1, i, c, h => by
    rcases List.mem_cons.1 h with rfl | h
    · exact ⟨mkS_ok l p 0 (by omega) (by omega) 3 _, mkS_ok l p 0 (by omega) (by omega) 3 _⟩
    · exact consS_ok l p hp k _ c h
set_option maxRecDepth 20000 in
set_option maxHeartbeats 2000000 in
theorem cons_w (l : List Nat) (hb : Byt l) (p : Nat) (hp : p ≤ 256) (a : Nat) (n : Nat) (hn : n ≤ 10) (i : Nat) (hi : i ≤ 100000) {m : Sto} {x : Nat} {K : CR → Sto → Nat → Prop} (hax : a < x) (hm : m a = some (.cells [sV cU l, .i .i64 i] false))
    (hK : ∀ B m' x', x ≤ x' → m' a = some (.cells [sV cU l, .i .i64 ((consS l p (pickS l i (n + 1)) (i + 1)).2 : Nat)] false) → (∀ j, j < x → j ≠ a → m' j = m j) → Bn m' B cK 6 (consS l p (pickS l i (n + 1)) (i + 1)).1 x x' 4 → K (.ret B) m' x') :
    wpCall ctx (.fn (.func law12_Cons.n) [] []) [.p a 0, .i .i64 p, .i .i64 n] m x K := by
  refine open_w law12_Cons.f rfl (.inl rfl) ?_
  simp +contextual (disch := omega) [Nat.add_assoc, Int.add_assoc, if_pos, if_neg, -Int.not_lt, -Int.not_le, -Nat.not_lt, -Nat.not_le, -List.length_flatMap, law12_Cons.c]
  refine pick_w (l := l) (i := i) (n := n + 1) (by simp +contextual (disch := omega) [Nat.add_assoc, Int.add_assoc, if_pos, if_neg, -Int.not_lt, -Int.not_le, -Nat.not_lt, -Nat.not_le, -List.length_flatMap, hm]) hb (by omega) (by omega) ?_
  intro x1 hx1
  have hk := pickS_lt l i (n + 1) (by omega)
  generalize pickS l i (n + 1) = k at *
  obtain ⟨T, hT⟩ : ∃ T, T = consS l p k (i + 1) := ⟨_, rfl⟩
  rw [← hT] at hK
  have hTl : T.1.length = k := by rw [hT, consS_len]
  simp +contextual (disch := omega) [Nat.add_assoc, Int.add_assoc, if_pos, if_neg, -Int.not_lt, -Int.not_le, -Nat.not_lt, -Nat.not_le, -List.length_flatMap]
  refine for_w (fun r e m' x' => e 0 = .p a 0 ∧ e 1 = .i .i64 p ∧ e 8 = .i .i64 ((k : Int) - r) ∧ x ≤ x' ∧ (∀ j, j < x → j ≠ a → m' j = m j) ∧ ∃ (o : List Kn) (q : Nat), m' a = some (.cells [sV cU l, .i .i64 q] false) ∧ Bn m' (e 7) cK 6 o x x' 4 ∧ o.length = r ∧ q ≤ i + 1 + 512 * r ∧ o ++ (consS l p (k - r) q).1 = T.1 ∧ (consS l p (k - r) q).2 = T.2) k ?_ ?_ ?_
  · simp +contextual (disch := omega) [Nat.add_assoc, Int.add_assoc, if_pos, if_neg, -Int.not_lt, -Int.not_le, -Nat.not_lt, -Nat.not_le, -List.length_flatMap]
    exact ⟨by omega, [], i + 1, by omega, Bn.nil, rfl, by omega, by rw [hT]; rfl, by rw [hT]⟩
  · rintro r e m' x' hr ⟨g0, g1, g8, gx, gm, o, q, ga, gB, gl, gq, gT1, gT2⟩
    obtain ⟨k', hk'⟩ : ∃ k', k - r = k' + 1 := ⟨k - r - 1, by omega⟩
    have hk2 : k - (r + 1) = k' := by omega
    rw [hk2]
    rw [hk'] at gT1 gT2
    simp only [consS] at gT1 gT2
    have b1 := mkS_bd l p 0 3 q
    have b2 := mkS_bd l p 0 3 (mkS l p 0 3 q).2
    have h44 : 4 ^ (3 + 1) = 256 := by decide
    have hst := gB.stor
    have hsc := gB.cells
    generalize hV : e 7 = V7 at *
    simp +contextual (disch := omega) [Nat.add_assoc, Int.add_assoc, if_pos, if_neg, -Int.not_lt, -Int.not_le, -Nat.not_lt, -Nat.not_le, -List.length_flatMap, law12_Cons.b1, g0, g1, g8, hV, hr]
    refine made_w l hb p 0 hp (by omega) a 2 (by omega) q (by omega) (by omega) (by simp +contextual (disch := omega) [Nat.add_assoc, Int.add_assoc, if_pos, if_neg, -Int.not_lt, -Int.not_le, -Nat.not_lt, -Nat.not_le, -List.length_flatMap, ga]) ?_
    intro c1 m1 y1 hl1 ha1 hm1 hx1 hz1
    simp +contextual (disch := omega) [Nat.add_assoc, Int.add_assoc, if_pos, if_neg, -Int.not_lt, -Int.not_le, -Nat.not_lt, -Nat.not_le, -List.length_flatMap, g0, g1, g8, hV]
    refine made_w l hb p 0 hp (by omega) a 2 (by omega) (mkS l p 0 3 q).2 (by omega) (by omega) (by simp +contextual (disch := omega) [Nat.add_assoc, Int.add_assoc, if_pos, if_neg, -Int.not_lt, -Int.not_le, -Nat.not_lt, -Nat.not_le, -List.length_flatMap, ha1]) ?_
    intro c2 m2 y2 hl2 ha2 hm2 hx2 hz2
    generalize (mkS l p 0 3 (mkS l p 0 3 q).2) = R2 at *
    generalize (mkS l p 0 3 q) = R1 at *
    have hz := (hz1.up (m' := m2) (x' := y2) (by omega) (Nat.le_refl _) (fun j h1 h2 => hm2 j (by omega) (by omega))).app (hz2.low (lo' := x' + 5) (by omega))
    obtain ⟨a0, a1, a2, rfl⟩ : ∃ a0 a1 a2, c1 = [a0, a1, a2] := by
      match c1, hl1 with
      | [a, b, c], _ => exact ⟨a, b, c, rfl⟩
    obtain ⟨d0, d1, d2, rfl⟩ : ∃ a0 a1 a2, c2 = [a0, a1, a2] := by
      match c2, hl2 with
      | [a, b, c], _ => exact ⟨a, b, c, rfl⟩
    simp +contextual (disch := omega) [Nat.add_assoc, Int.add_assoc, if_pos, if_neg, -Int.not_lt, -Int.not_le, -Nat.not_lt, -Nat.not_le, -List.length_flatMap, g0, g1, g8, hV, hst, hsc, -apV_ns]
    refine gB.ap ⟨R1.1, R2.1⟩ (fun j h1 h2 => by rw [Sto.sne _ _ _ _ (by omega), hm2 j (by omega) (by omega), hm1 j (by omega) (by omega)]) (by omega) gx
      ((hz.up (m' := m2.set (y2 + 1) (some (litO 6 [a0, a1, a2, d0, d1, d2]))) (x' := y2 + 2) (k' := 4) (by omega) (by omega) (fun j h1 h2 => Sto.sne _ _ _ _ (by omega))).low (by omega)) rfl rfl (by omega) ?_
    intro B' ws m3 z0 z1 z2 z3
    have za : m3 a = some (.cells [sV cU l, .i .i64 (R2.2 : Nat)] false) := by rw [z2 a hax, Sto.sne _ _ _ _ (by omega), ha2]
    simp +contextual (disch := omega) [Nat.add_assoc, Int.add_assoc, if_pos, if_neg, -Int.not_lt, -Int.not_le, -Nat.not_lt, -Nat.not_le, -List.length_flatMap, z0, g0, g1, g8]
    refine ⟨by omega, by omega, fun j h1 h2 => ?_, o ++ [⟨R1.1, R2.1⟩], R2.2, za, z1.up (by omega) (fun _ _ _ => rfl), by simp [gl], by omega, by rw [List.append_assoc]; exact gT1, gT2⟩
    rw [z2 j (by omega), Sto.sne _ _ _ _ (by omega), hm2 j (by omega) (by omega), hm1 j (by omega) (by omega), gm j h1 h2]
  · rintro e m' x' ⟨g0, g1, g8, gx, gm, o, q, ga, gB, gl, gq, gT1, gT2⟩
    rw [Nat.sub_self] at gT1 gT2
    simp only [consS, List.append_nil] at gT1 gT2
    rw [gT1] at gB
    rw [gT2] at ga
    generalize hV : e 7 = V7 at *
    have hst := gB.stor
    have hsc := gB.cells
    simp +contextual (disch := omega) [Nat.add_assoc, Int.add_assoc, if_pos, if_neg, -Int.not_lt, -Int.not_le, -Nat.not_lt, -Nat.not_le, -List.length_flatMap, law12_Cons.b1, g0, g1, g8, hV]
    exact hK _ _ _ (by omega) ga gm (gB.up (by omega) (fun _ _ _ => rfl))
end Pi


set_option linter.unusedSimpArgs false
set_option linter.unusedVariables false
namespace Pi
theorem baseZ_getD (Z : List Bool) (i : Nat) (hi : i < Z.length) : (baseZ Z).getD i 0 = if Z.getD i false = true then 0 else 1 := by
  simp [baseZ, hi]
theorem base_fits (Z : List Bool) : Fits Z (baseZ Z) := ⟨baseZ_len Z, fun i hi => by
  rw [baseZ_getD Z i hi]
  split <;> simp_all⟩
theorem flatten_offs (l : L) (Z : List Bool) : (flattenF l Z).offs = (ofS l Z).offs := by unfold flattenF; split <;> rfl
theorem off_none {l : L} {Z : List Bool} {d : Int} (hr : rightS l Z.length 0 d = true) (i : Nat) (h : Z.getD i false = true) : (flattenF l Z).offs.getD i (-1) = -1 := by
  rw [flatten_offs]
  exact (of_val l Z _ d hr (base_fits Z)).2 i h
theorem out_none {f : F} {i : Nat} (h : f.offs.length ≤ i) : f.offs.getD i (-1) = -1 := by simp [List.getElem?_eq_none h]
/-- Where no more than one case may be at hand: at most, for all values that fit. -/
theorem leq_fits {f g : F} (hf : rightF f = true) (hg : rightF g = true) (hl : f.offs.length = g.offs.length) (h : leqF f g = true) {p : List Int} (hp : f.offs.length = p.length) (h1 : ∀ i : Nat, g.offs.getD i (-1) ≠ -1 → 1 ≤ p.getD i 0) : vF f p ≤ vF g p := by
  have hp2 := hl.symm.trans hp
  rw [leqF_iff hf hg hl] at h
  refine (vF_le hp).2 ⟨?_, fun i hi => ?_⟩
  · have h2 := vF_cst hp2
    have h3 := (right_F hg).2.1
    by_cases ht : topF g = -1
    · have := h.2; omega
    · obtain ⟨i, e1, e2⟩ := top_ne (f := g) (right_getD hg) ht
      have := vF_at hp2 i (by omega)
      have := h1 i (by omega)
      have := h.2
      omega
  · have h2 := h.1 i
    have h3 := right_getD hf i
    have := vF_at hp2 i (by omega)
    omega
theorem moreAt_some : ∀ {x y : List Int} {i k : Nat}, x.length = y.length → moreAt x y i = some k → ∃ j : Nat, k = i + j ∧ j < x.length ∧ y.getD j (-1) < x.getD j (-1)
  | [], [], _, _, _, h => by simp [moreAt] at h
  | [], _ :: _, _, _, h, _ => by simp at h
  | _ :: _, [], _, _, h, _ => by simp at h
  | a :: x, b :: y, i, k, hl, h => by
    rw [moreAt] at h
    split at h
    · rename_i hlt
      injection h with h
      exact ⟨0, by omega, by simp, by simpa using hlt⟩
    · obtain ⟨j, h1, h2, h3⟩ := moreAt_some (by simpa using hl) h
      exact ⟨j + 1, by omega, by simpa using h2, by simpa using h3⟩
theorem moreAt_none : ∀ {x y : List Int} {i : Nat}, x.length = y.length → moreAt x y i = none → ∀ j : Nat, x.getD j (-1) ≤ y.getD j (-1)
  | [], [], _, _, _ => fun j => by simp
  | [], _ :: _, _, h, _ => by simp at h
  | _ :: _, [], _, h, _ => by simp at h
  | a :: x, b :: y, i, hl, h => by
    rw [moreAt] at h
    split at h
    · cases h
    · rename_i hlt
      intro j
      cases j with
      | zero => simp; omega
      | succ j => simpa using moreAt_none (by simpa using hl) h j
/-- The values against it show it. -/
theorem against_more {f g : F} {Z : List Bool} (hf : rightF f = true) (hg : rightF g = true) (l1 : f.offs.length = Z.length) (l2 : g.offs.length = Z.length) (hz : ∀ i : Nat, Z.getD i false = true → f.offs.getD i (-1) = -1) (h : leqF f g = false) :
    Fits Z (againstS f g Z) ∧ vF g (againstS f g Z) < vF f (againstS f g Z) ∧ ∀ i : Nat, 0 ≤ (againstS f g Z).getD i 0 ∧ (againstS f g Z).getD i 0 ≤ max 1 (greatF g) := by
  have hn : ¬ leqF f g = true := by rw [h]; simp
  rw [leqF_iff hf hg (l1.trans l2.symm)] at hn
  have b1 : ∀ i : Nat, 0 ≤ (baseZ Z).getD i 0 ∧ (baseZ Z).getD i 0 ≤ 1 := fun i => by
    by_cases hi : i < Z.length
    · rw [baseZ_getD Z i hi]; split <;> omega
    · simp [List.getElem?_eq_none (by rw [baseZ_len]; omega : (baseZ Z).length ≤ i)]
  have hgc := (right_F hg).2.1
  have hgt := (right_F hg).2.2.2.2
  have hgr : g.cst + 2 ≤ greatF g ∧ topF g + 3 ≤ greatF g := by unfold greatF; omega
  have hfi := fun i => right_getD hf i
  have hgi := fun i => right_getD hg i
  unfold againstS
  cases hm : moreAt f.offs g.offs 0 with
  | none =>
    have hall := moreAt_none (l1.trans l2.symm) hm
    have p1 : f.offs.length = (baseZ Z).length := l1.trans (baseZ_len Z).symm
    have p2 : g.offs.length = (baseZ Z).length := l2.trans (baseZ_len Z).symm
    refine ⟨base_fits Z, ?_, fun i => by have := b1 i; simp only; omega⟩
    have hc : ¬ f.cst ≤ max g.cst (topF g + 1) := fun hc => hn ⟨hall, hc⟩
    have h1 := vF_cst p1
    have h2 : vF g (baseZ Z) ≤ max g.cst (topF g + 1) := (vF_le p2).2 ⟨by omega, fun i hi => by
      have := b1 i
      have := top_ge (f := g) i
      omega⟩
    simp only
    omega
  | some k =>
    obtain ⟨j, hj, hjl, hlt⟩ := moreAt_some (l1.trans l2.symm) hm
    rw [Nat.zero_add] at hj
    subst hj
    simp only
    have gj := hgi k
    have hZk : Z.getD k false = false := by
      cases hzk : Z.getD k false with
      | false => rfl
      | true => have := hz k hzk; omega
    obtain ⟨v, hv⟩ : ∃ v, v = (baseZ Z).set k (greatF g) := ⟨_, rfl⟩
    have hvl : v.length = Z.length := by rw [hv, List.length_set, baseZ_len]
    have hvg : ∀ i : Nat, v.getD i 0 = if k = i then greatF g else (baseZ Z).getD i 0 := fun i => by
      rw [hv, set_getD]
      by_cases hki : k = i
      · rw [if_pos ⟨hki, by rw [baseZ_len]; omega⟩, if_pos hki]
      · rw [if_neg (fun hh => hki hh.1), if_neg hki]
    rw [← hv]
    have p1 : f.offs.length = v.length := l1.trans hvl.symm
    have p2 : g.offs.length = v.length := l2.trans hvl.symm
    refine ⟨⟨hvl, fun i hi => ?_⟩, ?_, fun i => ?_⟩
    · rw [hvg]
      by_cases hki : k = i
      · subst hki
        rw [hZk]
        simp
        omega
      · rw [if_neg hki]
        exact (base_fits Z).2 i hi
    · have h1 := vF_at p1 k (by omega)
      rw [hvg, if_pos rfl] at h1
      have h2 : vF g v ≤ greatF g + f.offs.getD k (-1) - 1 := (vF_le p2).2 ⟨by omega, fun i hi => by
        rw [hvg]
        by_cases hki : k = i
        · subst hki
          rw [if_pos rfl]
          omega
        · rw [if_neg hki]
          have := b1 i
          have := top_ge (f := g) i
          omega⟩
      omega
    · rw [hvg]
      have := b1 i
      split <;> omega
theorem badAt_some : ∀ {x y : List F} {i k : Nat}, x.length = y.length → badAt x y i = some k → ∃ j : Nat, k = i + j ∧ ∃ (h1 : j < x.length) (h2 : j < y.length), leqF x[j] y[j] = false
  | [], [], _, _, _, h => by simp [badAt] at h
  | [], _ :: _, _, _, h, _ => by simp at h
  | _ :: _, [], _, _, h, _ => by simp at h
  | a :: x, b :: y, i, k, hl, h => by
    rw [badAt] at h
    split at h
    · obtain ⟨j, h1, h2, h3, h4⟩ := badAt_some (by simpa using hl) h
      exact ⟨j + 1, by omega, by simpa using h2, by simpa using h3, by simpa using h4⟩
    · rename_i hlt
      injection h with h
      have h0 : leqF a b = false := by simpa using hlt
      exact ⟨0, by omega, by simp, by simp, h0⟩
theorem bad_case {a b : L} {n k : Nat} (h : badAt (casesF a n) (casesF b n) 0 = some k) : k < 2 ^ n ∧ leqF (flattenF a (caseP k n)) (flattenF b (caseP k n)) = false := by
  have h1 := casesF_len a n
  have h2 := casesF_len b n
  obtain ⟨j, hj, q1, q2, q3⟩ := badAt_some (by omega) h
  rw [Nat.zero_add] at hj
  subst hj
  rw [casesF_at (by omega), casesF_at (by omega)] at q3
  exact ⟨by omega, q3⟩
theorem case3 (Z : List Bool) (h : Z.length = 3) : ∃ k, k < 8 ∧ Z = caseP k 3 := by
  match Z, h with
  | [a, b, c], _ =>
    refine ⟨a.toNat + 2 * b.toNat + 4 * c.toNat, ?_, ?_⟩
    · cases a <;> cases b <;> cases c <;> decide
    · cases a <;> cases b <;> cases c <;> decide
theorem leq_true {A B : L} (rA : RightS A (3 : Nat) 0 = true) (rB : RightS B (3 : Nat) 0 = true) (h : leqB A B 3 = true) {p : List Int} (hp : p.length = 3) (hn : Nats p) : lvS A p [] ≤ lvS B p [] := by
  obtain ⟨k, hk, hZ⟩ := case3 (p.map fun x => decide (x = 0)) (by simp [hp])
  have hF : Fits (caseP k 3) p := by
    rw [← hZ]
    refine ⟨by simp, fun i hi => ?_⟩
    have hi' : i < p.length := by simpa using hi
    have := hn _ (List.getElem_mem hi')
    by_cases h0 : p[i] = 0 <;> simp [hi', h0]
    omega
  have fa := flatten_len (l := A) (Z := caseP k 3) (by rw [caseP_len]; exact rA)
  have fb := flatten_len (l := B) (Z := caseP k 3) (by rw [caseP_len]; exact rB)
  have ra := (RightS_ok (q := 0) rA).2
  have rb := (RightS_ok (q := 0) rB).2
  have ra' : rightS A (caseP k 3).length 0 12 = true := by rw [caseP_len]; exact ra
  have rb' : rightS B (caseP k 3).length 0 12 = true := by rw [caseP_len]; exact rb
  rw [← flatten_val ra' hF, ← flatten_val rb' hF]
  refine leq_fits fa.2 fb.2 (by rw [fa.1, fb.1]) (leqB_iff.1 h k (by omega)) (by rw [fa.1, caseP_len, hp]) fun i hi => ?_
  have hil : i < (caseP k 3).length := by
    refine Classical.byContradiction fun hh => hi (out_none (by rw [fb.1]; omega))
  have := hF.2 i hil
  cases hz : (caseP k 3).getD i false with
  | false => rw [hz] at this; simpa using this
  | true => exact (hi (off_none rb' i hz)).elim
theorem leq_false {A B : L} (rA : RightS A (3 : Nat) 0 = true) (rB : RightS B (3 : Nat) 0 = true) {k : Nat} (h : badAt (casesF A 3) (casesF B 3) 0 = some k) :
    (leqAt A B 3 k).length = 3 ∧ Nats (leqAt A B 3 k) ∧ lvS B (leqAt A B 3 k) [] < lvS A (leqAt A B 3 k) [] := by
  obtain ⟨hk, hb⟩ := bad_case h
  have fa := flatten_len (l := A) (Z := caseP k 3) (by rw [caseP_len]; exact rA)
  have fb := flatten_len (l := B) (Z := caseP k 3) (by rw [caseP_len]; exact rB)
  have ra' : rightS A (caseP k 3).length 0 12 = true := by rw [caseP_len]; exact (RightS_ok (q := 0) rA).2
  have rb' : rightS B (caseP k 3).length 0 12 = true := by rw [caseP_len]; exact (RightS_ok (q := 0) rB).2
  obtain ⟨q1, q2, q3⟩ := against_more fa.2 fb.2 fa.1 fb.1 (off_none ra') hb
  rw [flatten_val ra' q1, flatten_val rb' q1] at q2
  have hg := right_F fb.2
  refine ⟨by unfold leqAt; rw [againstS_len, caseP_len], nats_small (M := 1003) (by omega) fun i => ?_, q2⟩
  have := q3 i
  have hgr : greatF (flattenF B (caseP k 3)) ≤ 1003 := by unfold greatF; omega
  show 0 ≤ (againstS _ _ _).getD i 0 ∧ (againstS _ _ _).getD i 0 ≤ 1003
  omega
end Pi


set_option linter.unusedSimpArgs false
set_option linter.unusedVariables false
namespace Pi
theorem mkS_right3 (l : List Nat) (i : Nat) : RightS (mkS l 3 0 3 i).1 (3 : Nat) 0 = true := RightS_of (q := 0) (by omega) (by omega) (by have : szL (mkS l 3 0 3 i).1 + 1 ≤ 2 ^ 3 := mkS_sz l 3 0 2 i; omega) (rightS_up _ _ _ _ _ (by omega) (mkS_right l 3 0 2 i))
theorem consS_right (l : List Nat) : ∀ k i, RightK 3 (consS l 3 k i).1
  | 0, i, c, h => by cases h
  | k + 1, i, c, h => by
    rcases List.mem_cons.1 h with rfl | h
    · exact ⟨mkS_right3 l _, mkS_right3 l _⟩
    · exact consS_right l k _ c h
end Pi


set_option linter.unusedSimpArgs false
set_option linter.unusedVariables false
namespace Pi
theorem goodK3 {cs : List Kn} (hok : ∀ c ∈ cs, c.Ok) (hl : cs.length ≤ 8) (hr : RightK 3 cs) : ∀ z : List Bool, z.length = 3 → GoodKs cs z := fun z hz => ⟨by omega, hl, fun c hc => ⟨hok c hc, by rw [hz]; exact hr c hc⟩⟩
theorem rightU3 {cs : List Kn} (hl : cs.length ≤ 8) (hr : RightK 3 cs) : RightU cs 3 = true := by
  simp only [RightU, Bool.and_eq_true, decide_eq_true_eq]
  refine ⟨⟨⟨by omega, by omega⟩, hl⟩, List.all_eq_true.2 fun c hc => ?_⟩
  have := hr c hc
  simp only [rightK, Bool.and_eq_true]
  exact this
end Pi


set_option linter.unusedSimpArgs false
set_option linter.unusedVariables false
namespace Pi
end Pi

