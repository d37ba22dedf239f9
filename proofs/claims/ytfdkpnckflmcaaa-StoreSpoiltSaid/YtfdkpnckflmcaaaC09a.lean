/- The least model of clauses, in plain Lean. -/
import Derived.Test.YtfdkpnckflmcaaaC08c
set_option linter.unusedSimpArgs false
set_option linter.unusedVariables false
namespace Pi
def stepC (m : List Int) (c : C) : List Int := if m.getD c.to.var.toNat 0 < asksS m c then m.set c.to.var.toNat (asksS m c) else m
def roundC (l : List C) (m : List Int) : List Int := l.foldl stepC m
def greatC (most : Int) (m : List Int) : Bool := m.any fun v => decide (most < v)
def runC : Nat → List C → Int → List Int → Int → List Int × Bool × Int
  | 0, _, _, _, k => ([], false, k)
  | f + 1, l, most, m, k =>
    if greatC most (roundC l m) then ([], false, k + l.length)
    else if roundC l m = m then (m, true, k + l.length)
    else runC f l most (roundC l m) (k + l.length)
/-- No more in any value. -/
def LeM (a b : List Int) : Prop := ∀ i : Nat, a.getD i 0 ≤ b.getD i 0
theorem LeM.refl (a : List Int) : LeM a a := fun _ => Int.le_refl _
theorem LeM.trans {a b c : List Int} (h : LeM a b) (k : LeM b c) : LeM a c := fun i => Int.le_trans (h i) (k i)
def holdsC (l : List C) (m : List Int) : Prop := ∀ c ∈ l, brokenC m c = false
theorem getD_set (l : List Int) (i j : Nat) (v : Int) : (l.set i v).getD j 0 = if i = j ∧ j < l.length then v else l.getD j 0 := by
  by_cases h : j < l.length
  · simp only [List.getD_eq_getElem?_getD, List.getElem?_set]
    by_cases hij : i = j
    · subst hij; simp [h]
    · simp [hij]
  · have h1 : (l.set i v).getD j 0 = 0 := by simp [List.getElem?_eq_none (by simpa using h : (l.set i v).length ≤ j)]
    have h2 : l.getD j 0 = 0 := by simp [List.getElem?_eq_none (by omega : l.length ≤ j)]
    rw [h1, h2, if_neg (by omega)]
theorem minS_mono {m M : List Int} {l : List A} (hne : l ≠ []) (h : ∀ a ∈ l, atS m a ≤ atS M a) : minS m l ≤ minS M l := by
  obtain ⟨b, b1, b2⟩ := minS_mem M l hne
  have := minS_le m l b b1
  have := h b b1
  omega
theorem asks_mono {m M : List Int} {c : C} (hne : c.frm ≠ []) (h : LeM m M) : asksS m c ≤ asksS M c := by
  have := minS_mono (m := m) (M := M) hne (fun a _ => by have := h a.var.toNat; unfold atS; omega)
  unfold asksS
  omega
theorem step_len (m : List Int) (c : C) : (stepC m c).length = m.length := by
  unfold stepC
  split <;> simp
theorem step_le (m : List Int) (c : C) : LeM m (stepC m c) := by
  intro i
  unfold stepC
  split
  · rw [getD_set]
    split
    · rename_i h1 h2
      rw [← h2.1]
      omega
    · omega
  · omega
theorem step_under {m M : List Int} {c : C} (hne : c.frm ≠ []) (h : LeM m M) (hc : brokenC M c = false) : LeM (stepC m c) M := by
  intro i
  have h1 := holds_at.1 hc
  have h2 := asks_mono hne h
  have h3 := h i
  unfold stepC
  split
  · rw [getD_set]
    split
    · rename_i q
      rw [← q.1]
      omega
    · exact h3
  · exact h3
theorem round_len (l : List C) : ∀ m : List Int, (roundC l m).length = m.length := by
  induction l with
  | nil => intro m; rfl
  | cons c r ih => intro m; exact (ih (stepC m c)).trans (step_len m c)
theorem round_le (l : List C) : ∀ m : List Int, LeM m (roundC l m) := by
  induction l with
  | nil => intro m; exact .refl _
  | cons c r ih => intro m; exact (step_le m c).trans (ih (stepC m c))
theorem round_under {M : List Int} (l : List C) (hl : ∀ c ∈ l, c.frm ≠ []) (hM : holdsC l M) : ∀ m : List Int, LeM m M → LeM (roundC l m) M := by
  induction l with
  | nil => intro m h; exact h
  | cons c r ih =>
    intro m h
    exact ih (fun c hc => hl c (by simp [hc])) (fun c hc => hM c (by simp [hc])) (stepC m c) (step_under (hl c (by simp)) h (hM c (by simp)))
theorem LeM.anti {a b : List Int} (hl : a.length = b.length) (h : LeM a b) (k : LeM b a) : a = b := by
  apply List.ext_getElem hl
  intro i h1 h2
  have e1 := h i
  have e2 := k i
  simp only [List.getD_eq_getElem?_getD, List.getElem?_eq_getElem h1, List.getElem?_eq_getElem h2, Option.getD_some] at e1 e2
  omega
theorem fix_holds (l : List C) : ∀ m : List Int, (∀ c ∈ l, okC m.length c = true) → roundC l m = m → holdsC l m := by
  induction l with
  | nil => intro m _ _ c hc; cases hc
  | cons c r ih =>
    intro m hl h
    have h1 : roundC r (stepC m c) = m := h
    have h2 : LeM (stepC m c) m := by
      have := round_le r (stepC m c)
      rwa [h1] at this
    have h3 : stepC m c = m := LeM.anti (step_len m c) h2 (step_le m c)
    rw [h3] at h1
    intro d hd
    rcases List.mem_cons.1 hd with rfl | hd
    · rw [holds_at]
      have ht := okC_to (hl d (by simp))
      by_cases hb : m.getD d.to.var.toNat 0 < asksS m d
      · have e : (stepC m d).getD d.to.var.toNat 0 = m.getD d.to.var.toNat 0 := by rw [h3]
        unfold stepC at e
        rw [if_pos hb, getD_set, if_pos ⟨rfl, by omega⟩] at e
        omega
      · omega
    · exact ih m (fun c hc => hl c (by simp [hc])) h1 d hd
/-- How far a model is from what is too great. -/
def roomC (most : Int) (m : List Int) : Nat := (m.map fun v => (most + 1 - v).toNat).sum
theorem LeM.cons {a b : Int} {r s : List Int} : LeM (a :: r) (b :: s) ↔ a ≤ b ∧ LeM r s := by
  constructor
  · intro h
    exact ⟨by simpa using h 0, fun i => by simpa using h (i + 1)⟩
  · rintro ⟨h1, h2⟩ i
    cases i with
    | zero => simpa using h1
    | succ i => simpa using h2 i
theorem room_le {most : Int} : ∀ {a b : List Int}, a.length = b.length → LeM a b → roomC most b ≤ roomC most a
  | [], [], _, _ => Nat.le_refl _
  | a :: r, b :: s, hl, h => by
    obtain ⟨h1, h2⟩ := LeM.cons.1 h
    have := room_le (most := most) (by simpa using hl) h2
    simp only [roomC, List.map_cons, List.sum_cons] at this ⊢
    omega
theorem room_lt {most : Int} : ∀ {a b : List Int}, a.length = b.length → LeM a b → a ≠ b → greatC most b = false → roomC most b < roomC most a
  | [], [], _, _, h, _ => absurd rfl h
  | a :: r, b :: s, hl, h, hne, hg => by
    obtain ⟨h1, h2⟩ := LeM.cons.1 h
    have hl' : r.length = s.length := by simpa using hl
    have hg' : ¬ most < b ∧ greatC most s = false := by simpa [greatC] using hg
    by_cases hab : a = b
    · subst hab
      have hrs : r ≠ s := fun e => hne (by rw [e])
      have := room_lt (most := most) hl' h2 hrs hg'.2
      simp only [roomC, List.map_cons, List.sum_cons] at this ⊢
      omega
    · have := room_le (most := most) hl' h2
      simp only [roomC, List.map_cons, List.sum_cons] at this ⊢
      omega
theorem room_bd {most : Int} (h : 0 ≤ most) : ∀ {m : List Int}, (∀ i, 0 ≤ m.getD i 0) → roomC most m ≤ m.length * (most.toNat + 1)
  | [], _ => by simp [roomC]
  | a :: r, h0 => by
    have h1 := h0 0
    have := room_bd h (m := r) (fun i => by simpa using h0 (i + 1))
    simp only [roomC, List.map_cons, List.sum_cons, List.length_cons, Nat.succ_mul] at this ⊢
    simp at h1
    omega
theorem great_false {most : Int} {m : List Int} (h0 : 0 ≤ most) : greatC most m = false ↔ ∀ i, m.getD i 0 ≤ most := by
  unfold greatC
  rw [List.any_eq_false]
  constructor
  · intro h i
    by_cases hi : i < m.length
    · have := h m[i] (List.getElem_mem hi)
      simp only [decide_eq_true_eq] at this
      simp [hi]
      omega
    · simp [List.getElem?_eq_none (by omega : m.length ≤ i)]
      exact h0
  · intro h v hv
    obtain ⟨i, hi, rfl⟩ := List.mem_iff_getElem.1 hv
    have := h i
    simp [hi] at this
    simpa using this
/-- What rounds tell. -/
theorem run_ok {l : List C} {most : Int} {frm : List Int} (h0 : 0 ≤ most) (hl : ∀ c ∈ l, okC frm.length c = true) : ∀ (f : Nat) (m : List Int) (k : Int), m.length = frm.length → LeM frm m → greatC most m = false →
    (∀ M, M.length = frm.length → LeM frm M → holdsC l M → LeM m M) → roomC most m < f →
    ((runC f l most m k).2.1 = true → (runC f l most m k).1.length = frm.length ∧ LeM frm (runC f l most m k).1 ∧ holdsC l (runC f l most m k).1 ∧ greatC most (runC f l most m k).1 = false ∧ ∀ M, M.length = frm.length → LeM frm M → holdsC l M → LeM (runC f l most m k).1 M) ∧
    ((runC f l most m k).2.1 = false → (runC f l most m k).1 = [] ∧ ∀ M, M.length = frm.length → LeM frm M → holdsC l M → greatC most M = true) := by
  intro f
  induction f with
  | zero => intro m k _ _ _ _ h; omega
  | succ f ih =>
    intro m k h1 h2 h3 h4 h5
    have hne : ∀ c ∈ l, c.frm ≠ [] := fun c hc => okC_ne (hl c hc)
    have hu : ∀ M, M.length = frm.length → LeM frm M → holdsC l M → LeM (roundC l m) M := fun M q1 q2 q3 => round_under l hne q3 m (h4 M q1 q2 q3)
    unfold runC
    by_cases hg : greatC most (roundC l m) = true
    · rw [if_pos hg]
      refine ⟨fun h => (nomatch h), fun _ => ⟨rfl, fun M q1 q2 q3 => ?_⟩⟩
      cases hgm : greatC most M with
      | true => rfl
      | false =>
        have e := (great_false h0).1 hgm
        have : greatC most (roundC l m) = false := (great_false h0).2 fun i => Int.le_trans (hu M q1 q2 q3 i) (e i)
        rw [this] at hg
        cases hg
    · rw [if_neg hg]
      have hg' : greatC most (roundC l m) = false := by simpa using hg
      by_cases he : roundC l m = m
      · rw [if_pos he]
        exact ⟨fun _ => ⟨h1, h2, fix_holds l m (by rw [h1]; exact hl) he, h3, h4⟩, fun h => (nomatch h)⟩
      · rw [if_neg he]
        have hr := room_lt (most := most) (round_len l m).symm (round_le l m) (fun e => he e.symm) hg'
        exact ih (roundC l m) (k + l.length) ((round_len l m).trans h1) (h2.trans (round_le l m)) hg' hu (by omega)
/-- More by as much each. -/
theorem holds_shift {n : Nat} {l : List C} {m : List Int} (hn : m.length = n) (hl : ∀ c ∈ l, okC n c = true) (k : Int) (h : holdsC l m) : holdsC l (m.map (· + k)) := by
  intro c hc
  rw [broken_up (vars := n) m _ c k (hl c hc) (fun i hi => by simp [hn, hi])]
  exact h c hc
theorem most_ge {l : List C} {c : C} (hc : c ∈ l) {a : A} (ha : a ∈ c.frm) : c.to.off - a.off ≤ mostS l := by
  have inner : ∀ (fr : List A) (t n : Int), n ≤ fr.foldl (fun n a => max n (t - a.off)) n ∧ ∀ a ∈ fr, t - a.off ≤ fr.foldl (fun n a => max n (t - a.off)) n := by
    intro fr t
    induction fr with
    | nil => intro n; simp
    | cons b r ih =>
      intro n
      simp only [List.foldl_cons]
      have h := ih (max n (t - b.off))
      refine ⟨by omega, fun a ha => ?_⟩
      rcases List.mem_cons.1 ha with rfl | ha
      · omega
      · exact h.2 a ha
  have outer : ∀ (l : List C) (n : Int), n ≤ l.foldl (fun n c => c.frm.foldl (fun n a => max n (c.to.off - a.off)) n) n ∧ ∀ c ∈ l, ∀ a ∈ c.frm, c.to.off - a.off ≤ l.foldl (fun n c => c.frm.foldl (fun n a => max n (c.to.off - a.off)) n) n := by
    intro l
    induction l with
    | nil => intro n; simp
    | cons d r ih =>
      intro n
      simp only [List.foldl_cons]
      have h := ih (d.frm.foldl (fun n a => max n (d.to.off - a.off)) n)
      have hi := inner d.frm d.to.off n
      refine ⟨by omega, fun c hc a ha => ?_⟩
      rcases List.mem_cons.1 hc with rfl | hc
      · have := hi.2 a ha; omega
      · exact h.2 c hc a ha
  exact (outer l 0).2 c hc a ha
/-- Where nothing is between t and what is more by the most, all above can be less by 1. -/
def dropM (t : Int) (m : List Int) : List Int := m.map fun v => if t < v then v - 1 else v
theorem dropM_at (t : Int) (m : List Int) (i : Nat) (hi : i < m.length) : (dropM t m).getD i 0 = if t < m.getD i 0 then m.getD i 0 - 1 else m.getD i 0 := by simp [dropM, hi]
theorem drop_holds {n : Nat} {l : List C} {m : List Int} {t : Int} (hn : m.length = n) (hl : ∀ c ∈ l, okC n c = true) (h : holdsC l m) (hgap : ∀ i, i < n → ¬ (t < m.getD i 0 ∧ m.getD i 0 ≤ t + mostS l)) : holdsC l (dropM t m) := by
  intro c hc
  have ok := hl c hc
  have hto := okC_to ok
  have h1 := holds_at.1 (h c hc)
  rw [holds_at]
  have et := dropM_at t m c.to.var.toNat (by omega)
  have gt := hgap c.to.var.toNat (by omega)
  have hle : ∀ a ∈ c.frm, atS (dropM t m) a ≤ atS m a := by
    intro a ha
    have := okC_frm ok ha
    have e := dropM_at t m a.var.toNat (by omega)
    unfold atS
    rw [e]
    split <;> omega
  have hmono := minS_mono (m := dropM t m) (M := m) (okC_ne ok) hle
  by_cases hs : t < m.getD c.to.var.toNat 0
  · rw [et, if_pos hs]
    obtain ⟨b, b1, b2⟩ := minS_mem m c.frm (okC_ne ok)
    have hb := okC_frm ok b1
    have eb := dropM_at t m b.var.toNat (by omega)
    have lb := minS_le (dropM t m) c.frm b b1
    have mg := most_ge hc b1
    unfold asksS at *
    unfold atS at lb b2
    rw [eb] at lb
    split at lb
    · omega
    · omega
  · rw [et, if_neg hs]
    unfold asksS at *
    omega
theorem sum_lt {f : Int → Int} (hf : ∀ v, f v ≤ v) : ∀ {m : List Int}, (∃ v ∈ m, f v < v) → (m.map f).sum < m.sum
  | [], h => by obtain ⟨v, hv, _⟩ := h; cases hv
  | a :: r, h => by
    have le : ∀ m : List Int, (m.map f).sum ≤ m.sum := by
      intro m
      induction m with
      | nil => simp
      | cons b s ih => have := hf b; simp only [List.map_cons, List.sum_cons]; omega
    have := hf a
    obtain ⟨v, hv, h1⟩ := h
    simp only [List.map_cons, List.sum_cons]
    rcases List.mem_cons.1 hv with rfl | hv
    · have := le r; omega
    · have := sum_lt hf (m := r) ⟨v, hv, h1⟩; omega
theorem sum_nonneg {m : List Int} (h : ∀ v ∈ m, 0 ≤ v) : 0 ≤ m.sum := by
  induction m with
  | nil => simp
  | cons a r ih => have := h a (by simp); have := ih (fun v hv => h v (by simp [hv])); simp only [List.sum_cons]; omega
theorem count_lt {p q : Int → Bool} (hpq : ∀ v, p v = true → q v = true) : ∀ {m : List Int}, (∃ v ∈ m, q v = true ∧ p v = false) → m.countP p < m.countP q
  | [], h => by obtain ⟨v, hv, _⟩ := h; cases hv
  | a :: r, h => by
    have le : r.countP p ≤ r.countP q := List.countP_mono_left fun x _ => hpq x
    obtain ⟨v, hv, h1, h2⟩ := h
    rw [List.countP_cons, List.countP_cons]
    rcases List.mem_cons.1 hv with rfl | hv
    · rw [h1, h2]; simp; omega
    · have := count_lt hpq (m := r) ⟨v, hv, h1, h2⟩
      have ha := hpq a
      cases hp : p a
      · simp; omega
      · rw [ha hp]; simp; omega
/-- A model that is no less than some values, if there is one: one that is not great. -/
theorem small_model {n : Nat} {l : List C} {frm : List Int} {F : Int} (hn : 0 < n) (hf : frm.length = n) (hl : ∀ c ∈ l, okC n c = true) (hF : ∀ i, i < n → 0 ≤ frm.getD i 0 ∧ frm.getD i 0 ≤ F) :
    ∀ (s : Nat) (m : List Int), m.sum.toNat = s → m.length = n → LeM frm m → holdsC l m → ∃ M, M.length = n ∧ LeM frm M ∧ holdsC l M ∧ greatC (F + ((n : Int) - 1) * mostS l) M = false := by
  intro s
  induction s using Nat.strongRecOn with
  | ind s ih =>
    intro m hs hm hle hh
    have h0 := mostS_nonneg l
    have hF0 := hF 0 hn
    have mpos : ∀ v ∈ m, 0 ≤ v := by
      intro v hv
      obtain ⟨i, hi, rfl⟩ := List.mem_iff_getElem.1 hv
      have h1 := hle i
      have h2 := hF i (by omega)
      have e : m.getD i 0 = m[i] := by simp [hi]
      omega
    -- where all above some t at least as great as F can be less
    have less : ∀ t, F ≤ t → (∃ v ∈ m, t < v) → (∀ i, i < n → ¬ (t < m.getD i 0 ∧ m.getD i 0 ≤ t + mostS l)) → ∃ M, M.length = n ∧ LeM frm M ∧ holdsC l M ∧ greatC (F + ((n : Int) - 1) * mostS l) M = false := by
      intro t ht hv hgap
      have hlt : (dropM t m).sum < m.sum := sum_lt (f := fun v => if t < v then v - 1 else v) (fun v => by show (if t < v then v - 1 else v) ≤ v; split <;> omega) (by
        obtain ⟨v, hv1, hv2⟩ := hv
        exact ⟨v, hv1, by show (if t < v then v - 1 else v) < v; rw [if_pos hv2]; omega⟩)
      have hdl : LeM frm (dropM t m) := by
        intro i
        by_cases hi : i < n
        · have h1 := hle i
          have h2 := hF i hi
          rw [dropM_at t m i (by omega)]
          split <;> omega
        · simp [dropM, List.getElem?_eq_none (by omega : m.length ≤ i), List.getElem?_eq_none (by omega : frm.length ≤ i)]
      have hd0 : 0 ≤ (dropM t m).sum := by
        refine sum_nonneg fun v hv => ?_
        obtain ⟨u, hu1, hu2⟩ := List.mem_map.1 hv
        have := mpos u hu1
        subst hu2
        split <;> omega
      exact ih (dropM t m).sum.toNat (by omega) (dropM t m) rfl (by simp [dropM, hm]) hdl (drop_holds hm hl hh hgap)
    by_cases hlow : ∃ v ∈ m, v ≤ F
    · -- count those that are at most F and so many steps
      by_cases hall : ∀ k : Nat, k < n → (∀ v ∈ m, v ≤ F + k * mostS l) ∨ k + 1 ≤ m.countP fun v => decide (v ≤ F + k * mostS l)
      · refine ⟨m, hm, hle, hh, ?_⟩
        have hk := hall (n - 1) (by omega)
        have e : ((n - 1 : Nat) : Int) = (n : Int) - 1 := by omega
        rw [e] at hk
        have : ∀ v ∈ m, v ≤ F + ((n : Int) - 1) * mostS l := by
          rcases hk with hk | hk
          · exact hk
          · have h1 : m.countP (fun v => decide (v ≤ F + ((n : Int) - 1) * mostS l)) = m.length := by
              have := List.countP_le_length (p := fun v => decide (v ≤ F + ((n : Int) - 1) * mostS l)) (l := m)
              omega
            intro v hv
            have := List.countP_eq_length.1 h1 v hv
            simpa using this
        unfold greatC
        rw [List.any_eq_false]
        intro v hv
        have := this v hv
        simp only [decide_eq_true_eq]
        omega
      · -- the first number of steps for which it is not so
        have ex : ∃ k : Nat, k + 1 < n ∧ ((∀ v ∈ m, v ≤ F + k * mostS l) ∨ k + 1 ≤ m.countP fun v => decide (v ≤ F + k * mostS l)) ∧ ¬ ((∀ v ∈ m, v ≤ F + ((k + 1 : Nat) : Int) * mostS l) ∨ k + 1 + 1 ≤ m.countP fun v => decide (v ≤ F + ((k + 1 : Nat) : Int) * mostS l)) := by
          apply Classical.byContradiction
          intro hno
          apply hall
          intro k
          induction k with
          | zero =>
            intro _
            right
            obtain ⟨v, hv1, hv2⟩ := hlow
            have : 0 < m.countP fun v => decide (v ≤ F + ((0 : Nat) : Int) * mostS l) := List.countP_pos_iff.2 ⟨v, hv1, by simpa using hv2⟩
            omega
          | succ k ihk =>
            intro hk
            apply Classical.byContradiction
            intro hno2
            exact hno ⟨k, hk, ihk (by omega), hno2⟩
        obtain ⟨k, hk, h1, h2⟩ := ex
        have e1 : ((k + 1 : Nat) : Int) * mostS l = k * mostS l + mostS l := by rw [Int.natCast_add, Int.add_mul]; simp
        have hk0 : 0 ≤ (k : Int) * mostS l := Int.mul_nonneg (by omega) h0
        rw [e1] at h2
        refine less (F + k * mostS l) (by omega) ?_ ?_
        · apply Classical.byContradiction
          intro hno
          apply h2
          left
          intro v hv
          have : ¬ (F + k * mostS l < v) := fun h => hno ⟨v, hv, h⟩
          omega
        · intro i hi hbet
          have hi' : i < m.length := by omega
          have e2 : m.getD i 0 = m[i] := by simp [hi']
          rw [e2] at hbet
          apply h2
          rcases h1 with h1 | h1
          · left
            intro v hv
            have := h1 v hv
            omega
          · right
            have := count_lt (p := fun v => decide (v ≤ F + k * mostS l)) (q := fun v => decide (v ≤ F + (k * mostS l + mostS l))) (fun v hv => by simp only [decide_eq_true_eq] at hv ⊢; omega) (m := m)
              ⟨m[i], List.getElem_mem hi', by simp only [decide_eq_true_eq, decide_eq_false_iff_not]; omega⟩
            omega
    · -- all are more than F: all less by 1
      have hall : ∀ v ∈ m, F < v := fun v hv => by
        have : ¬ v ≤ F := fun h => hlow ⟨v, hv, h⟩
        omega
      have hmap : ∀ i, i < n → (m.map (· + (-1))).getD i 0 = m.getD i 0 - 1 := by
        intro i hi
        have : i < m.length := by omega
        simp [this]
        omega
      have hne : ∃ v, v ∈ m := by
        cases m with
        | nil => simp at hm; omega
        | cons a r => exact ⟨a, by simp⟩
      have hlt : (m.map (· + (-1))).sum < m.sum := sum_lt (f := (· + (-1))) (fun v => by omega) (by obtain ⟨v, hv⟩ := hne; exact ⟨v, hv, by omega⟩)
      have hd0 : 0 ≤ (m.map (· + (-1))).sum := by
        refine sum_nonneg fun v hv => ?_
        obtain ⟨u, hu1, hu2⟩ := List.mem_map.1 hv
        have := hall u hu1
        omega
      refine ih (m.map (· + (-1))).sum.toNat (by omega) _ rfl (by simp [hm]) (fun i => ?_) (holds_shift hm hl (-1) hh)
      by_cases hi : i < n
      · have h2 := hF i hi
        rw [hmap i hi]
        have e : m.getD i 0 ∈ m := by
          have : i < m.length := by omega
          have e2 : m.getD i 0 = m[i] := by simp [this]
          rw [e2]
          exact List.getElem_mem this
        have := hall _ e
        omega
      · simp [List.getElem?_eq_none (by omega : m.length ≤ i), List.getElem?_eq_none (by omega : frm.length ≤ i)]
end Pi
