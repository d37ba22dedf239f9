/- Levels, atoms, clauses: how they fill cells. -/
import Derived.Test.YtfdkpnckflmcaaaFw4
import Derived.Test.YtfdkpnckflmcaaaFw3
set_option linter.unusedSimpArgs false
set_option linter.unusedVariables false
namespace Pi

inductive L where
  | mk (kind n : Int) (kids : List L)
  deriving Inhabited
def L.kids : L → List L | .mk _ _ ks => ks
@[simp] theorem L.kind_mk (k n : Int) (ks : List L) : (L.mk k n ks).kind = k := rfl
@[simp] theorem L.n_mk (k n : Int) (ks : List L) : (L.mk k n ks).n = n := rfl
@[simp] theorem L.kids_mk (k n : Int) (ks : List L) : (L.mk k n ks).kids = ks := rfl
mutual
def cL : L → List V
  | .mk k n ks => [.i .i64 k, .i .i64 n, .sl (cLs ks) ks.length]
def cLs : List L → List V
  | [] => []
  | a :: r => cL a ++ cLs r
end
theorem cLs_eq : ∀ l : List L, cLs l = l.flatMap cL
  | [] => by simp [cLs]
  | a :: r => by simp [cLs, cLs_eq r]
theorem cL_at (l : L) : cL l = [.i .i64 l.kind, .i .i64 l.n, sV cL l.kids] := by
  cases l with
  | mk k n ks => simp [cL, sV, cLs_eq, L.kids]
theorem cL_len (l : L) : (cL l).length = 3 := by rw [cL_at]; rfl
@[simp] theorem nsy_sV {α : Type} (f : α → List V) (l : List α) : (sV f l).nsy = false := rfl
theorem cL_fz (l : L) (D : Nat → Option (Bool × List V × List V × List Nat)) : frzL D (cL l) = some (cL l, []) := by rw [cL_at]; simp
attribute [simp] cL_len cL_fz
instance : Cel cL 3 := ⟨cL_len, by decide, cL_fz⟩
theorem fold_inv {α β : Type} {f : β → α → β} {P : β → Prop} {l : List α} (h : ∀ b, ∀ a ∈ l, P b → P (f b a)) {b : β} (hb : P b) : P (l.foldl f b) := by
  induction l generalizing b with
  | nil => exact hb
  | cons a l ih => exact ih (fun b a ha => h b a (by simp [ha])) (h b a (by simp) hb)
theorem take_fold {α β : Type} {f : β → α → β} {l : List α} {b : β} {i : Nat} (h : i < l.length) : (l.take (i + 1)).foldl f b = f ((l.take i).foldl f b) l[i] := by
  rw [List.take_succ_eq_append_getElem h, List.foldl_append]; rfl
end Pi


set_option linter.unusedSimpArgs false
set_option linter.unusedVariables false
namespace Pi
open Go (TypeId Program)
section
variable {P : Program} {n : Nat} {t e : TypeId}
theorem p_u8 (hu : P.underlying e = some (.int .u8)) (m : Nat) (p : List V) (h : Tv P m e p) : ∃ a : Nat, p = cU a ∧ a < 256 := by
  obtain ⟨x, rfl, hw⟩ := tv_int hu h
  have := wf_u8 hw
  exact ⟨x.toNat, by simp [cU]; omega, by omega⟩
theorem a_i64 (hu : P.underlying t = some (.int .i64)) {v : V} (h : TvA P n t v) : ∃ x, v = .i .i64 x ∧ (-9223372036854775808 ≤ x ∧ x < 9223372036854775808) := by
  obtain ⟨x, rfl, hw⟩ := a_int hu h
  exact ⟨x, rfl, wf_i64 hw⟩
theorem a_u8 (hu : P.underlying t = some (.int .u8)) {v : V} (h : TvA P n t v) : ∃ x : Nat, v = .i .u8 x ∧ x < 256 := by
  obtain ⟨x, rfl, hw⟩ := a_int hu h
  have := wf_u8 hw
  exact ⟨x.toNat, by simp; omega, by omega⟩
theorem a_bytes (hu : P.underlying t = some (.slice e)) (he : P.underlying e = some (.int .u8)) {v : V} (h : TvA P n t v) : ∃ l : List Nat, v = sV cU l ∧ l.length ≤ 9223372036854775807 ∧ Byt l := by
  obtain ⟨l, h1, h2, h3⟩ := a_sl hu (p_u8 he) h
  exact ⟨l, h1, by omega, h3⟩
end
end Pi


set_option linter.unusedSimpArgs false
set_option linter.unusedVariables false
namespace Pi
structure A where
  var : Int
  off : Int
  deriving Inhabited, DecidableEq
def cA (a : A) : List V := [.i .i64 a.var, .i .i64 a.off]
@[simp] theorem cA_len (a : A) : (cA a).length = 2 := rfl
@[simp] theorem cA_fz (a : A) (D : Nat → Option (Bool × List V × List V × List Nat)) : frzL D (cA a) = some (cA a, []) := by simp [cA]
instance : Cel cA 2 := ⟨cA_len, by decide, cA_fz⟩
@[simp] theorem cA_0 (a : A) : (cA a)[0]? = some (.i .i64 a.var) := rfl
@[simp] theorem cA_1 (a : A) : (cA a)[1]? = some (.i .i64 a.off) := rfl
@[simp] theorem cA_take (a : A) : (cA a).take 2 = cA a := rfl
@[simp] theorem cA_drop (a : A) : (cA a).drop 2 = [] := rfl
structure C where
  frm : List A
  to : A
  deriving Inhabited, DecidableEq
def cC (c : C) : List V := [sV cA c.frm, .i .i64 c.to.var, .i .i64 c.to.off]
@[simp] theorem cC_len (c : C) : (cC c).length = 3 := rfl
@[simp] theorem cC_fz (c : C) (D : Nat → Option (Bool × List V × List V × List Nat)) : frzL D (cC c) = some (cC c, []) := by simp [cC]
instance : Cel cC 3 := ⟨cC_len, by decide, cC_fz⟩
@[simp] theorem cC_0 (c : C) : (cC c)[0]? = some (sV cA c.frm) := rfl
@[simp] theorem cC_1 (c : C) : (cC c)[1]? = some (.i .i64 c.to.var) := rfl
@[simp] theorem cC_2 (c : C) : (cC c)[2]? = some (.i .i64 c.to.off) := rfl
@[simp] theorem cC_take (c : C) : (cC c).take 3 = cC c := rfl
@[simp] theorem cC_drop (c : C) : (cC c).drop 3 = [] := rfl
@[simp] theorem cC_tail (c : C) : (cC c).tail = cA c.to := rfl
@[simp] theorem cA_drop0 (a : A) : (cA a).tail = [.i .i64 a.off] := rfl
end Pi


set_option linter.unusedSimpArgs false
set_option linter.unusedVariables false
namespace Pi
def okA (vars : Int) (a : A) : Bool := decide (0 ≤ a.var) && decide (a.var < vars) && decide (0 ≤ a.off) && decide (a.off ≤ 1000)
def manyC (c : C) : Bool := decide ((c.frm.length : Int) < 1) || decide (6 < (c.frm.length : Int))
def okC (vars : Int) (c : C) : Bool := !manyC c && (c.frm ++ [c.to]).all (okA vars)
def rightC (vars : Int) (l : List C) : Bool := decide (1 ≤ vars) && decide (vars ≤ 16) && decide ((l.length : Int) ≤ 60) && l.all (okC vars)
/-- What an atom is, by a model. -/
def atS (model : List Int) (a : A) : Int := model.getD a.var.toNat 0 - a.off
def minS (model : List Int) (l : List A) : Int := (l.map (atS model)).foldl min (atS model (l.getD 0 default))
def asksS (model : List Int) (c : C) : Int := minS model c.frm + c.to.off
def brokenC (model : List Int) (c : C) : Bool := decide (model.getD c.to.var.toNat 0 < asksS model c)
/-- By how much a clause asks for more, at most. -/
def mostS (l : List C) : Int := l.foldl (fun n c => c.frm.foldl (fun n a => max n (c.to.off - a.off)) n) 0
theorem mostS_nonneg (l : List C) : 0 ≤ mostS l := by
  unfold mostS
  refine fold_inv (P := fun n : Int => 0 ≤ n) ?_ (by omega)
  intro b c _ hb
  refine fold_inv (P := fun n : Int => 0 ≤ n) ?_ hb
  intro b a _ hb
  omega
end Pi


set_option linter.unusedSimpArgs false
set_option linter.unusedVariables false
namespace Pi
theorem fold_min_le (l : List Int) : ∀ b : Int, l.foldl min b ≤ b ∧ ∀ x ∈ l, l.foldl min b ≤ x := by
  induction l with
  | nil => intro b; simp
  | cons a r ih =>
    intro b
    simp only [List.foldl_cons]
    have h := ih (min b a)
    refine ⟨by omega, fun x hx => ?_⟩
    simp at hx
    rcases hx with rfl | hx
    · omega
    · exact h.2 x hx
theorem fold_min_mem (l : List Int) : ∀ b : Int, l.foldl min b = b ∨ l.foldl min b ∈ l := by
  induction l with
  | nil => intro b; simp
  | cons a r ih =>
    intro b
    simp only [List.foldl_cons, List.mem_cons]
    rcases ih (min b a) with h | h
    · rw [h]; omega
    · exact .inr (.inr h)
theorem minS_le (m : List Int) (l : List A) (a : A) (h : a ∈ l) : minS m l ≤ atS m a := (fold_min_le _ _).2 _ (List.mem_map_of_mem h)
theorem minS_mem (m : List Int) (l : List A) (h : l ≠ []) : ∃ a ∈ l, minS m l = atS m a := by
  rcases fold_min_mem (l.map (atS m)) (atS m (l.getD 0 default)) with h1 | h1
  · cases l with
    | nil => exact absurd rfl h
    | cons a r => exact ⟨a, by simp, h1⟩
  · obtain ⟨a, h2, h3⟩ := List.mem_map.1 h1
    exact ⟨a, h2, h3.symm⟩
theorem holds_at {m : List Int} {c : C} : brokenC m c = false ↔ asksS m c ≤ m.getD c.to.var.toNat 0 := by
  unfold brokenC
  simp only [decide_eq_false_iff_not]
  omega
theorem okC_ne {vars : Int} {c : C} (h : okC vars c = true) : c.frm ≠ [] := by
  intro h0
  unfold okC at h
  simp [manyC, h0] at h
theorem okC_six {vars : Int} {c : C} (h : okC vars c = true) : c.frm.length ≤ 6 := by
  simp [okC, manyC] at h
  omega
theorem okC_to {vars : Int} {c : C} (h : okC vars c = true) : 0 ≤ c.to.var ∧ c.to.var < vars ∧ 0 ≤ c.to.off ∧ c.to.off ≤ 1000 := by
  unfold okC at h
  simp only [Bool.and_eq_true, List.all_eq_true] at h
  have := h.2 c.to (by simp)
  simp only [okA, Bool.and_eq_true, decide_eq_true_eq] at this
  omega
theorem okC_frm {vars : Int} {c : C} (h : okC vars c = true) {a : A} (ha : a ∈ c.frm) : 0 ≤ a.var ∧ a.var < vars ∧ 0 ≤ a.off ∧ a.off ≤ 1000 := by
  unfold okC at h
  simp only [Bool.and_eq_true, List.all_eq_true] at h
  have := h.2 a (by simp [ha])
  simp only [okA, Bool.and_eq_true, decide_eq_true_eq] at this
  omega
/-- Models with as much more each: what is broken is the same. -/
theorem broken_up {vars : Nat} (m up : List Int) (c : C) (k : Int) (h : okC vars c = true) (hu : ∀ i, i < vars → up.getD i 0 = m.getD i 0 + k) : brokenC up c = brokenC m c := by
  unfold okC at h
  simp only [Bool.and_eq_true, Bool.not_eq_true', List.all_eq_true] at h
  obtain ⟨h1, h2⟩ := h
  have hne : c.frm ≠ [] := by
    intro h0
    rw [manyC, h0] at h1
    simp at h1
  have hat : ∀ a ∈ c.frm ++ [c.to], atS up a = atS m a + k := by
    intro a ha
    have := h2 a ha
    simp only [okA, Bool.and_eq_true, decide_eq_true_eq] at this
    have := hu a.var.toNat (by omega)
    unfold atS
    omega
  have hto := h2 c.to (by simp)
  simp only [okA, Bool.and_eq_true, decide_eq_true_eq] at hto
  have hto2 := hu c.to.var.toNat (by omega)
  have hmin : minS up c.frm = minS m c.frm + k := by
    obtain ⟨a, a1, a2⟩ := minS_mem up c.frm hne
    obtain ⟨b, b1, b2⟩ := minS_mem m c.frm hne
    have := minS_le up c.frm b b1
    have := minS_le m c.frm a a1
    have := hat a (by simp [a1])
    have := hat b (by simp [b1])
    omega
  unfold brokenC asksS
  rw [hto2, hmin]
  congr 1
  apply propext
  omega
end Pi


set_option linter.unusedSimpArgs false
set_option linter.unusedVariables false
namespace Pi
def atomB (vars b : Nat) : A := ⟨((b / 4 % vars : Nat) : Int), ((b / 32 % 3 : Nat) : Int)⟩
def manyB (l : List Nat) : Nat := 1 + l.getD 0 0 % 3
def clauseB (vars : Nat) (l : List Nat) : C := ⟨(l.take (manyB l)).map (atomB vars), (l[manyB l]?.map (atomB vars)).getD ⟨0, 0⟩⟩
def madeB (vars k : Nat) (l : List Nat) : List C := match k with
  | 0 => []
  | k + 1 => if l = [] then [] else clauseB vars l :: madeB vars k (l.drop (manyB l + 1))
def varsB (n : Nat) : Nat := 1 + n % 8
def madeC (n : Nat) (l : List Nat) : List C := madeB (varsB n) 30 l
theorem atomB_ok (vars b : Nat) (hv : 0 < vars) : okA vars (atomB vars b) = true := by
  have := Nat.mod_lt (b / 4) hv
  have := Nat.mod_lt (b / 32) (by omega : 3 > 0)
  unfold atomB
  generalize b / 4 % vars = x at *
  generalize b / 32 % 3 = y at *
  simp only [okA, Bool.and_eq_true, decide_eq_true_eq]
  omega
theorem clauseB_ok (vars : Nat) (l : List Nat) (hv : 0 < vars) (hl : l ≠ []) : okC vars (clauseB vars l) = true := by
  have h0 : 0 < l.length := List.length_pos_iff.2 hl
  have hm : 1 ≤ manyB l ∧ manyB l ≤ 3 := by unfold manyB; omega
  unfold okC
  simp only [Bool.and_eq_true, Bool.not_eq_true', List.all_eq_true]
  constructor
  · simp [manyC, clauseB]
    omega
  · intro a ha
    simp only [clauseB, List.mem_append, List.mem_map, List.mem_singleton] at ha
    rcases ha with ⟨b, _, rfl⟩ | rfl
    · exact atomB_ok vars b hv
    · cases l[manyB l]? with
      | none => simp [okA]; omega
      | some b => exact atomB_ok vars b hv
theorem madeB_ok (vars : Nat) (hv : 0 < vars) (k : Nat) : ∀ l, (madeB vars k l).length ≤ k ∧ ∀ c ∈ madeB vars k l, okC vars c = true := by
  induction k with
  | zero => intro l; simp [madeB]
  | succ k ih =>
    intro l
    unfold madeB
    by_cases h : l = []
    · simp [h]
    · rw [if_neg h]
      obtain ⟨h1, h2⟩ := ih (l.drop (manyB l + 1))
      refine ⟨by simp; omega, fun c hc => ?_⟩
      simp at hc
      rcases hc with rfl | hc
      · exact clauseB_ok vars l hv h
      · exact h2 c hc
theorem madeC_right (n : Nat) (l : List Nat) : rightC (varsB n) (madeC n l) = true := by
  obtain ⟨h1, h2⟩ := madeB_ok (varsB n) (by unfold varsB; omega) 30 l
  have : varsB n ≤ 8 ∧ 1 ≤ varsB n := by unfold varsB; omega
  simp only [rightC, Bool.and_eq_true, decide_eq_true_eq, List.all_eq_true]
  exact ⟨⟨⟨by omega, by omega⟩, by unfold madeC; omega⟩, h2⟩
end Pi


set_option linter.unusedSimpArgs false
set_option linter.unusedVariables false
namespace Pi
def stepC (m : List Int) (c : C) : List Int := if m.getD c.to.var.toNat 0 < asksS m c then m.set c.to.var.toNat (asksS m c) else m
def roundC (l : List C) (m : List Int) : List Int := l.foldl stepC m
def greatC (most : Int) (m : List Int) : Bool := m.any fun v => decide (most < v)
def runC : Nat → List C → Int → List Int → Int → List Int × Bool × Int
  | 0, _, _, _, k => ([], false, k)
  | f + 1, l, most, m, k =>
    if greatC most (roundC l m) then ([], false, k + l.length)
    else if roundC l m = m then (m, true, k + l.length)
    else runC f l most (roundC l m) (k + l.length)
/-- No more in any value. -/
def LeM (a b : List Int) : Prop := ∀ i : Nat, a.getD i 0 ≤ b.getD i 0
theorem LeM.refl (a : List Int) : LeM a a := fun _ => Int.le_refl _
theorem LeM.trans {a b c : List Int} (h : LeM a b) (k : LeM b c) : LeM a c := fun i => Int.le_trans (h i) (k i)
def holdsC (l : List C) (m : List Int) : Prop := ∀ c ∈ l, brokenC m c = false
theorem getD_set (l : List Int) (i j : Nat) (v : Int) : (l.set i v).getD j 0 = if i = j ∧ j < l.length then v else l.getD j 0 := by
  by_cases h : j < l.length
  · simp only [List.getD_eq_getElem?_getD, List.getElem?_set]
    by_cases hij : i = j
    · subst hij; simp [h]
    · simp [hij]
  · have h1 : (l.set i v).getD j 0 = 0 := by simp [List.getElem?_eq_none (by simpa using h : (l.set i v).length ≤ j)]
    have h2 : l.getD j 0 = 0 := by simp [List.getElem?_eq_none (by omega : l.length ≤ j)]
    rw [h1, h2, if_neg (by omega)]
theorem minS_mono {m M : List Int} {l : List A} (hne : l ≠ []) (h : ∀ a ∈ l, atS m a ≤ atS M a) : minS m l ≤ minS M l := by
  obtain ⟨b, b1, b2⟩ := minS_mem M l hne
  have := minS_le m l b b1
  have := h b b1
  omega
theorem asks_mono {m M : List Int} {c : C} (hne : c.frm ≠ []) (h : LeM m M) : asksS m c ≤ asksS M c := by
  have := minS_mono (m := m) (M := M) hne (fun a _ => by have := h a.var.toNat; unfold atS; omega)
  unfold asksS
  omega
theorem step_len (m : List Int) (c : C) : (stepC m c).length = m.length := by
  unfold stepC
  split <;> simp
theorem step_le (m : List Int) (c : C) : LeM m (stepC m c) := by
  intro i
  unfold stepC
  split
  · rw [getD_set]
    split
    · rename_i h1 h2
      rw [← h2.1]
      omega
    · omega
  · omega
theorem step_under {m M : List Int} {c : C} (hne : c.frm ≠ []) (h : LeM m M) (hc : brokenC M c = false) : LeM (stepC m c) M := by
  intro i
  have h1 := holds_at.1 hc
  have h2 := asks_mono hne h
  have h3 := h i
  unfold stepC
  split
  · rw [getD_set]
    split
    · rename_i q
      rw [← q.1]
      omega
    · exact h3
  · exact h3
theorem round_len (l : List C) : ∀ m : List Int, (roundC l m).length = m.length := by
  induction l with
  | nil => intro m; rfl
  | cons c r ih => intro m; exact (ih (stepC m c)).trans (step_len m c)
theorem round_le (l : List C) : ∀ m : List Int, LeM m (roundC l m) := by
  induction l with
  | nil => intro m; exact .refl _
  | cons c r ih => intro m; exact (step_le m c).trans (ih (stepC m c))
theorem round_under {M : List Int} (l : List C) (hl : ∀ c ∈ l, c.frm ≠ []) (hM : holdsC l M) : ∀ m : List Int, LeM m M → LeM (roundC l m) M := by
  induction l with
  | nil => intro m h; exact h
  | cons c r ih =>
    intro m h
    exact ih (fun c hc => hl c (by simp [hc])) (fun c hc => hM c (by simp [hc])) (stepC m c) (step_under (hl c (by simp)) h (hM c (by simp)))
theorem LeM.anti {a b : List Int} (hl : a.length = b.length) (h : LeM a b) (k : LeM b a) : a = b := by
  apply List.ext_getElem hl
  intro i h1 h2
  have e1 := h i
  have e2 := k i
  simp only [List.getD_eq_getElem?_getD, List.getElem?_eq_getElem h1, List.getElem?_eq_getElem h2, Option.getD_some] at e1 e2
  omega
theorem fix_holds (l : List C) : ∀ m : List Int, (∀ c ∈ l, okC m.length c = true) → roundC l m = m → holdsC l m := by
  induction l with
  | nil => intro m _ _ c hc; cases hc
  | cons c r ih =>
    intro m hl h
    have h1 : roundC r (stepC m c) = m := h
    have h2 : LeM (stepC m c) m := by
      have := round_le r (stepC m c)
      rwa [h1] at this
    have h3 : stepC m c = m := LeM.anti (step_len m c) h2 (step_le m c)
    rw [h3] at h1
    intro d hd
    rcases List.mem_cons.1 hd with rfl | hd
    · rw [holds_at]
      have ht := okC_to (hl d (by simp))
      by_cases hb : m.getD d.to.var.toNat 0 < asksS m d
      · have e : (stepC m d).getD d.to.var.toNat 0 = m.getD d.to.var.toNat 0 := by rw [h3]
        unfold stepC at e
        rw [if_pos hb, getD_set, if_pos ⟨rfl, by omega⟩] at e
        omega
      · omega
    · exact ih m (fun c hc => hl c (by simp [hc])) h1 d hd
/-- How far a model is from what is too great. -/
def roomC (most : Int) (m : List Int) : Nat := (m.map fun v => (most + 1 - v).toNat).sum
theorem LeM.cons {a b : Int} {r s : List Int} : LeM (a :: r) (b :: s) ↔ a ≤ b ∧ LeM r s := by
  constructor
  · intro h
    exact ⟨by simpa using h 0, fun i => by simpa using h (i + 1)⟩
  · rintro ⟨h1, h2⟩ i
    cases i with
    | zero => simpa using h1
    | succ i => simpa using h2 i
theorem room_le {most : Int} : ∀ {a b : List Int}, a.length = b.length → LeM a b → roomC most b ≤ roomC most a
  | [], [], _, _ => Nat.le_refl _
  | a :: r, b :: s, hl, h => by
    obtain ⟨h1, h2⟩ := LeM.cons.1 h
    have := room_le (most := most) (by simpa using hl) h2
    simp only [roomC, List.map_cons, List.sum_cons] at this ⊢
    omega
theorem room_lt {most : Int} : ∀ {a b : List Int}, a.length = b.length → LeM a b → a ≠ b → greatC most b = false → roomC most b < roomC most a
  | [], [], _, _, h, _ => absurd rfl h
  | a :: r, b :: s, hl, h, hne, hg => by
    obtain ⟨h1, h2⟩ := LeM.cons.1 h
    have hl' : r.length = s.length := by simpa using hl
    have hg' : ¬ most < b ∧ greatC most s = false := by simpa [greatC] using hg
    by_cases hab : a = b
    · subst hab
      have hrs : r ≠ s := fun e => hne (by rw [e])
      have := room_lt (most := most) hl' h2 hrs hg'.2
      simp only [roomC, List.map_cons, List.sum_cons] at this ⊢
      omega
    · have := room_le (most := most) hl' h2
      simp only [roomC, List.map_cons, List.sum_cons] at this ⊢
      omega
theorem room_bd {most : Int} (h : 0 ≤ most) : ∀ {m : List Int}, (∀ i, 0 ≤ m.getD i 0) → roomC most m ≤ m.length * (most.toNat + 1)
  | [], _ => by simp [roomC]
  | a :: r, h0 => by
    have h1 := h0 0
    have := room_bd h (m := r) (fun i => by simpa using h0 (i + 1))
    simp only [roomC, List.map_cons, List.sum_cons, List.length_cons, Nat.succ_mul] at this ⊢
    simp at h1
    omega
theorem great_false {most : Int} {m : List Int} (h0 : 0 ≤ most) : greatC most m = false ↔ ∀ i, m.getD i 0 ≤ most := by
  unfold greatC
  rw [List.any_eq_false]
  constructor
  · intro h i
    by_cases hi : i < m.length
    · have := h m[i] (List.getElem_mem hi)
      simp only [decide_eq_true_eq] at this
      simp [hi]
      omega
    · simp [List.getElem?_eq_none (by omega : m.length ≤ i)]
      exact h0
  · intro h v hv
    obtain ⟨i, hi, rfl⟩ := List.mem_iff_getElem.1 hv
    have := h i
    simp [hi] at this
    simpa using this
/-- What rounds tell. -/
theorem run_ok {l : List C} {most : Int} {frm : List Int} (h0 : 0 ≤ most) (hl : ∀ c ∈ l, okC frm.length c = true) : ∀ (f : Nat) (m : List Int) (k : Int), m.length = frm.length → LeM frm m → greatC most m = false →
    (∀ M, M.length = frm.length → LeM frm M → holdsC l M → LeM m M) → roomC most m < f →
    ((runC f l most m k).2.1 = true → (runC f l most m k).1.length = frm.length ∧ LeM frm (runC f l most m k).1 ∧ holdsC l (runC f l most m k).1 ∧ greatC most (runC f l most m k).1 = false ∧ ∀ M, M.length = frm.length → LeM frm M → holdsC l M → LeM (runC f l most m k).1 M) ∧
    ((runC f l most m k).2.1 = false → (runC f l most m k).1 = [] ∧ ∀ M, M.length = frm.length → LeM frm M → holdsC l M → greatC most M = true) := by
  intro f
  induction f with
  | zero => intro m k _ _ _ _ h; omega
  | succ f ih =>
    intro m k h1 h2 h3 h4 h5
    have hne : ∀ c ∈ l, c.frm ≠ [] := fun c hc => okC_ne (hl c hc)
    have hu : ∀ M, M.length = frm.length → LeM frm M → holdsC l M → LeM (roundC l m) M := fun M q1 q2 q3 => round_under l hne q3 m (h4 M q1 q2 q3)
    unfold runC
    by_cases hg : greatC most (roundC l m) = true
    · rw [if_pos hg]
      refine ⟨fun h => (nomatch h), fun _ => ⟨rfl, fun M q1 q2 q3 => ?_⟩⟩
      cases hgm : greatC most M with
      | true => rfl
      | false =>
        have e := (great_false h0).1 hgm
        have : greatC most (roundC l m) = false := (great_false h0).2 fun i => Int.le_trans (hu M q1 q2 q3 i) (e i)
        rw [this] at hg
        cases hg
    · rw [if_neg hg]
      have hg' : greatC most (roundC l m) = false := by simpa using hg
      by_cases he : roundC l m = m
      · rw [if_pos he]
        exact ⟨fun _ => ⟨h1, h2, fix_holds l m (by rw [h1]; exact hl) he, h3, h4⟩, fun h => (nomatch h)⟩
      · rw [if_neg he]
        have hr := room_lt (most := most) (round_len l m).symm (round_le l m) (fun e => he e.symm) hg'
        exact ih (roundC l m) (k + l.length) ((round_len l m).trans h1) (h2.trans (round_le l m)) hg' hu (by omega)
/-- More by as much each. -/
theorem holds_shift {n : Nat} {l : List C} {m : List Int} (hn : m.length = n) (hl : ∀ c ∈ l, okC n c = true) (k : Int) (h : holdsC l m) : holdsC l (m.map (· + k)) := by
  intro c hc
  rw [broken_up (vars := n) m _ c k (hl c hc) (fun i hi => by simp [hn, hi])]
  exact h c hc
theorem most_ge {l : List C} {c : C} (hc : c ∈ l) {a : A} (ha : a ∈ c.frm) : c.to.off - a.off ≤ mostS l := by
  have inner : ∀ (fr : List A) (t n : Int), n ≤ fr.foldl (fun n a => max n (t - a.off)) n ∧ ∀ a ∈ fr, t - a.off ≤ fr.foldl (fun n a => max n (t - a.off)) n := by
    intro fr t
    induction fr with
    | nil => intro n; simp
    | cons b r ih =>
      intro n
      simp only [List.foldl_cons]
      have h := ih (max n (t - b.off))
      refine ⟨by omega, fun a ha => ?_⟩
      rcases List.mem_cons.1 ha with rfl | ha
      · omega
      · exact h.2 a ha
  have outer : ∀ (l : List C) (n : Int), n ≤ l.foldl (fun n c => c.frm.foldl (fun n a => max n (c.to.off - a.off)) n) n ∧ ∀ c ∈ l, ∀ a ∈ c.frm, c.to.off - a.off ≤ l.foldl (fun n c => c.frm.foldl (fun n a => max n (c.to.off - a.off)) n) n := by
    intro l
    induction l with
    | nil => intro n; simp
    | cons d r ih =>
      intro n
      simp only [List.foldl_cons]
      have h := ih (d.frm.foldl (fun n a => max n (d.to.off - a.off)) n)
      have hi := inner d.frm d.to.off n
      refine ⟨by omega, fun c hc a ha => ?_⟩
      rcases List.mem_cons.1 hc with rfl | hc
      · have := hi.2 a ha; omega
      · exact h.2 c hc a ha
  exact (outer l 0).2 c hc a ha
/-- Where nothing is between t and what is more by the most, all above can be less by 1. -/
def dropM (t : Int) (m : List Int) : List Int := m.map fun v => if t < v then v - 1 else v
theorem dropM_at (t : Int) (m : List Int) (i : Nat) (hi : i < m.length) : (dropM t m).getD i 0 = if t < m.getD i 0 then m.getD i 0 - 1 else m.getD i 0 := by simp [dropM, hi]
theorem drop_holds {n : Nat} {l : List C} {m : List Int} {t : Int} (hn : m.length = n) (hl : ∀ c ∈ l, okC n c = true) (h : holdsC l m) (hgap : ∀ i, i < n → ¬ (t < m.getD i 0 ∧ m.getD i 0 ≤ t + mostS l)) : holdsC l (dropM t m) := by
  intro c hc
  have ok := hl c hc
  have hto := okC_to ok
  have h1 := holds_at.1 (h c hc)
  rw [holds_at]
  have et := dropM_at t m c.to.var.toNat (by omega)
  have gt := hgap c.to.var.toNat (by omega)
  have hle : ∀ a ∈ c.frm, atS (dropM t m) a ≤ atS m a := by
    intro a ha
    have := okC_frm ok ha
    have e := dropM_at t m a.var.toNat (by omega)
    unfold atS
    rw [e]
    split <;> omega
  have hmono := minS_mono (m := dropM t m) (M := m) (okC_ne ok) hle
  by_cases hs : t < m.getD c.to.var.toNat 0
  · rw [et, if_pos hs]
    obtain ⟨b, b1, b2⟩ := minS_mem m c.frm (okC_ne ok)
    have hb := okC_frm ok b1
    have eb := dropM_at t m b.var.toNat (by omega)
    have lb := minS_le (dropM t m) c.frm b b1
    have mg := most_ge hc b1
    unfold asksS at *
    unfold atS at lb b2
    rw [eb] at lb
    split at lb
    · omega
    · omega
  · rw [et, if_neg hs]
    unfold asksS at *
    omega
theorem sum_lt {f : Int → Int} (hf : ∀ v, f v ≤ v) : ∀ {m : List Int}, (∃ v ∈ m, f v < v) → (m.map f).sum < m.sum
  | [], h => by obtain ⟨v, hv, _⟩ := h; cases hv
  | a :: r, h => by
    have le : ∀ m : List Int, (m.map f).sum ≤ m.sum := by
      intro m
      induction m with
      | nil => simp
      | cons b s ih => have := hf b; simp only [List.map_cons, List.sum_cons]; omega
    have := hf a
    obtain ⟨v, hv, h1⟩ := h
    simp only [List.map_cons, List.sum_cons]
    rcases List.mem_cons.1 hv with rfl | hv
    · have := le r; omega
    · have := sum_lt hf (m := r) ⟨v, hv, h1⟩; omega
theorem sum_nonneg {m : List Int} (h : ∀ v ∈ m, 0 ≤ v) : 0 ≤ m.sum := by
  induction m with
  | nil => simp
  | cons a r ih => have := h a (by simp); have := ih (fun v hv => h v (by simp [hv])); simp only [List.sum_cons]; omega
theorem count_lt {p q : Int → Bool} (hpq : ∀ v, p v = true → q v = true) : ∀ {m : List Int}, (∃ v ∈ m, q v = true ∧ p v = false) → m.countP p < m.countP q
  | [], h => by obtain ⟨v, hv, _⟩ := h; cases hv
  | a :: r, h => by
    have le : r.countP p ≤ r.countP q := List.countP_mono_left fun x _ => hpq x
    obtain ⟨v, hv, h1, h2⟩ := h
    rw [List.countP_cons, List.countP_cons]
    rcases List.mem_cons.1 hv with rfl | hv
    · rw [h1, h2]; simp; omega
    · have := count_lt hpq (m := r) ⟨v, hv, h1, h2⟩
      have ha := hpq a
      cases hp : p a
      · simp; omega
      · rw [ha hp]; simp; omega
/-- A model that is no less than some values, if there is one: one that is not great. -/
theorem small_model {n : Nat} {l : List C} {frm : List Int} {F : Int} (hn : 0 < n) (hf : frm.length = n) (hl : ∀ c ∈ l, okC n c = true) (hF : ∀ i, i < n → 0 ≤ frm.getD i 0 ∧ frm.getD i 0 ≤ F) :
    ∀ (s : Nat) (m : List Int), m.sum.toNat = s → m.length = n → LeM frm m → holdsC l m → ∃ M, M.length = n ∧ LeM frm M ∧ holdsC l M ∧ greatC (F + ((n : Int) - 1) * mostS l) M = false := by
  intro s
  induction s using Nat.strongRecOn with
  | ind s ih =>
    intro m hs hm hle hh
    have h0 := mostS_nonneg l
    have hF0 := hF 0 hn
    have mpos : ∀ v ∈ m, 0 ≤ v := by
      intro v hv
      obtain ⟨i, hi, rfl⟩ := List.mem_iff_getElem.1 hv
      have h1 := hle i
      have h2 := hF i (by omega)
      have e : m.getD i 0 = m[i] := by simp [hi]
      omega
    -- where all above some t at least as great as F can be less
    have less : ∀ t, F ≤ t → (∃ v ∈ m, t < v) → (∀ i, i < n → ¬ (t < m.getD i 0 ∧ m.getD i 0 ≤ t + mostS l)) → ∃ M, M.length = n ∧ LeM frm M ∧ holdsC l M ∧ greatC (F + ((n : Int) - 1) * mostS l) M = false := by
      intro t ht hv hgap
      have hlt : (dropM t m).sum < m.sum := sum_lt (f := fun v => if t < v then v - 1 else v) (fun v => by show (if t < v then v - 1 else v) ≤ v; split <;> omega) (by
        obtain ⟨v, hv1, hv2⟩ := hv
        exact ⟨v, hv1, by show (if t < v then v - 1 else v) < v; rw [if_pos hv2]; omega⟩)
      have hdl : LeM frm (dropM t m) := by
        intro i
        by_cases hi : i < n
        · have h1 := hle i
          have h2 := hF i hi
          rw [dropM_at t m i (by omega)]
          split <;> omega
        · simp [dropM, List.getElem?_eq_none (by omega : m.length ≤ i), List.getElem?_eq_none (by omega : frm.length ≤ i)]
      have hd0 : 0 ≤ (dropM t m).sum := by
        refine sum_nonneg fun v hv => ?_
        obtain ⟨u, hu1, hu2⟩ := List.mem_map.1 hv
        have := mpos u hu1
        subst hu2
        split <;> omega
      exact ih (dropM t m).sum.toNat (by omega) (dropM t m) rfl (by simp [dropM, hm]) hdl (drop_holds hm hl hh hgap)
    by_cases hlow : ∃ v ∈ m, v ≤ F
    · -- count those that are at most F and so many steps
      by_cases hall : ∀ k : Nat, k < n → (∀ v ∈ m, v ≤ F + k * mostS l) ∨ k + 1 ≤ m.countP fun v => decide (v ≤ F + k * mostS l)
      · refine ⟨m, hm, hle, hh, ?_⟩
        have hk := hall (n - 1) (by omega)
        have e : ((n - 1 : Nat) : Int) = (n : Int) - 1 := by omega
        rw [e] at hk
        have : ∀ v ∈ m, v ≤ F + ((n : Int) - 1) * mostS l := by
          rcases hk with hk | hk
          · exact hk
          · have h1 : m.countP (fun v => decide (v ≤ F + ((n : Int) - 1) * mostS l)) = m.length := by
              have := List.countP_le_length (p := fun v => decide (v ≤ F + ((n : Int) - 1) * mostS l)) (l := m)
              omega
            intro v hv
            have := List.countP_eq_length.1 h1 v hv
            simpa using this
        unfold greatC
        rw [List.any_eq_false]
        intro v hv
        have := this v hv
        simp only [decide_eq_true_eq]
        omega
      · -- the first number of steps for which it is not so
        have ex : ∃ k : Nat, k + 1 < n ∧ ((∀ v ∈ m, v ≤ F + k * mostS l) ∨ k + 1 ≤ m.countP fun v => decide (v ≤ F + k * mostS l)) ∧ ¬ ((∀ v ∈ m, v ≤ F + ((k + 1 : Nat) : Int) * mostS l) ∨ k + 1 + 1 ≤ m.countP fun v => decide (v ≤ F + ((k + 1 : Nat) : Int) * mostS l)) := by
          apply Classical.byContradiction
          intro hno
          apply hall
          intro k
          induction k with
          | zero =>
            intro _
            right
            obtain ⟨v, hv1, hv2⟩ := hlow
            have : 0 < m.countP fun v => decide (v ≤ F + ((0 : Nat) : Int) * mostS l) := List.countP_pos_iff.2 ⟨v, hv1, by simpa using hv2⟩
            omega
          | succ k ihk =>
            intro hk
            apply Classical.byContradiction
            intro hno2
            exact hno ⟨k, hk, ihk (by omega), hno2⟩
        obtain ⟨k, hk, h1, h2⟩ := ex
        have e1 : ((k + 1 : Nat) : Int) * mostS l = k * mostS l + mostS l := by rw [Int.natCast_add, Int.add_mul]; simp
        have hk0 : 0 ≤ (k : Int) * mostS l := Int.mul_nonneg (by omega) h0
        rw [e1] at h2
        refine less (F + k * mostS l) (by omega) ?_ ?_
        · apply Classical.byContradiction
          intro hno
          apply h2
          left
          intro v hv
          have : ¬ (F + k * mostS l < v) := fun h => hno ⟨v, hv, h⟩
          omega
        · intro i hi hbet
          have hi' : i < m.length := by omega
          have e2 : m.getD i 0 = m[i] := by simp [hi']
          rw [e2] at hbet
          apply h2
          rcases h1 with h1 | h1
          · left
            intro v hv
            have := h1 v hv
            omega
          · right
            have := count_lt (p := fun v => decide (v ≤ F + k * mostS l)) (q := fun v => decide (v ≤ F + (k * mostS l + mostS l))) (fun v hv => by simp only [decide_eq_true_eq] at hv ⊢; omega) (m := m)
              ⟨m[i], List.getElem_mem hi', by simp only [decide_eq_true_eq, decide_eq_false_iff_not]; omega⟩
            omega
    · -- all are more than F: all less by 1
      have hall : ∀ v ∈ m, F < v := fun v hv => by
        have : ¬ v ≤ F := fun h => hlow ⟨v, hv, h⟩
        omega
      have hmap : ∀ i, i < n → (m.map (· + (-1))).getD i 0 = m.getD i 0 - 1 := by
        intro i hi
        have : i < m.length := by omega
        simp [this]
        omega
      have hne : ∃ v, v ∈ m := by
        cases m with
        | nil => simp at hm; omega
        | cons a r => exact ⟨a, by simp⟩
      have hlt : (m.map (· + (-1))).sum < m.sum := sum_lt (f := (· + (-1))) (fun v => by omega) (by obtain ⟨v, hv⟩ := hne; exact ⟨v, hv, by omega⟩)
      have hd0 : 0 ≤ (m.map (· + (-1))).sum := by
        refine sum_nonneg fun v hv => ?_
        obtain ⟨u, hu1, hu2⟩ := List.mem_map.1 hv
        have := hall u hu1
        omega
      refine ih (m.map (· + (-1))).sum.toNat (by omega) _ rfl (by simp [hm]) (fun i => ?_) (holds_shift hm hl (-1) hh)
      by_cases hi : i < n
      · have h2 := hF i hi
        rw [hmap i hi]
        have e : m.getD i 0 ∈ m := by
          have : i < m.length := by omega
          have e2 : m.getD i 0 = m[i] := by simp [this]
          rw [e2]
          exact List.getElem_mem this
        have := hall _ e
        omega
      · simp [List.getElem?_eq_none (by omega : m.length ≤ i), List.getElem?_eq_none (by omega : frm.length ≤ i)]
end Pi


set_option linter.unusedSimpArgs false
set_option linter.unusedVariables false
namespace Pi
structure LeastM (l : List C) (frm out : List Int) : Prop where
  len : out.length = frm.length
  ge : LeM frm out
  holds : holdsC l out
  least : ∀ M, M.length = frm.length → LeM frm M → holdsC l M → LeM out M
theorem LeastM.unique {l l' : List C} {frm a b : List Int} (h : LeastM l frm a) (k : LeastM l' frm b) (hl : ∀ M, holdsC l M ↔ holdsC l' M) : a = b :=
  LeM.anti (h.len.trans k.len.symm) (h.least b k.len k.ge ((hl b).2 k.holds)) (k.least a h.len h.ge ((hl a).1 h.holds))
def limC (n : Nat) (l : List C) (F : Int) : Int := F + ((n : Int) - 1) * mostS l
/-- Rounds from some values on, up to a limit. -/
def lmC (l : List C) (frm : List Int) (most : Int) : List Int × Bool × Int := runC (roomC most frm + 1) l most frm 0
def NoModel (n : Nat) (l : List C) : Prop := ∀ M : List Int, M.length = n → (∀ i, 0 ≤ M.getD i 0) → ¬ holdsC l M
theorem limC_ge {n : Nat} (hn : 0 < n) (l : List C) (F : Int) : F ≤ limC n l F := by
  have := Int.mul_nonneg (by omega : 0 ≤ (n : Int) - 1) (mostS_nonneg l)
  unfold limC
  omega
theorem lm_spec {l : List C} {frm : List Int} {F : Int} (hn : 0 < frm.length) (hl : ∀ c ∈ l, okC frm.length c = true) (hF : ∀ i, i < frm.length → 0 ≤ frm.getD i 0 ∧ frm.getD i 0 ≤ F) :
    ((lmC l frm (limC frm.length l F)).2.1 = true ∧ LeastM l frm (lmC l frm (limC frm.length l F)).1 ∧ ∀ i, (lmC l frm (limC frm.length l F)).1.getD i 0 ≤ limC frm.length l F) ∨
    ((lmC l frm (limC frm.length l F)).2.1 = false ∧ (lmC l frm (limC frm.length l F)).1 = [] ∧ NoModel frm.length l) := by
  have hF0 := hF 0 hn
  have hlim := limC_ge hn l F
  have h0 : 0 ≤ limC frm.length l F := by omega
  have hstart : greatC (limC frm.length l F) frm = false := (great_false h0).2 fun i => by
    by_cases hi : i < frm.length
    · have := hF i hi; omega
    · simp [List.getElem?_eq_none (by omega : frm.length ≤ i)]; exact h0
  have h := run_ok h0 hl (roomC (limC frm.length l F) frm + 1) frm 0 rfl (.refl _) hstart (fun M _ q _ => q) (by omega)
  cases hb : (lmC l frm (limC frm.length l F)).2.1 with
  | true =>
    obtain ⟨q1, q2, q3, q4, q5⟩ := h.1 hb
    exact .inl ⟨rfl, ⟨q1, q2, q3, q5⟩, (great_false h0).1 q4⟩
  | false =>
    obtain ⟨q1, q2⟩ := h.2 hb
    refine .inr ⟨rfl, q1, fun M hM hpos hh => ?_⟩
    have hsh : LeM frm (M.map (· + F)) := by
      intro i
      by_cases hi : i < frm.length
      · have e : (M.map (· + F)).getD i 0 = M.getD i 0 + F := by
          have : i < M.length := by omega
          simp [this]
        rw [e]
        have := hF i hi
        have := hpos i
        omega
      · simp [List.getElem?_eq_none (by omega : frm.length ≤ i), List.getElem?_eq_none (by omega : M.length ≤ i)]
    obtain ⟨M', p1, p2, p3, p4⟩ := small_model (F := F) hn rfl hl hF _ (M.map (· + F)) rfl (by simp [hM]) hsh (holds_shift hM hl F hh)
    have := q2 M' p1 p2 p3
    unfold limC at this
    rw [this] at p4
    cases p4
/-- From noughts on. -/
def noughts (n : Nat) : List Int := List.replicate n 0
theorem noughts_at (n i : Nat) : (noughts n).getD i 0 = 0 := by
  unfold noughts
  by_cases h : i < n
  · simp [h]
  · simp [List.getElem?_eq_none (by simpa using h : (List.replicate n (0 : Int)).length ≤ i)]
theorem noughts_len (n : Nat) : (noughts n).length = n := by simp [noughts]
theorem le_noughts {n : Nat} {M : List Int} : LeM (noughts n) M ↔ ∀ i, 0 ≤ M.getD i 0 := by
  unfold LeM
  constructor
  · intro h i; have := h i; rw [noughts_at] at this; exact this
  · intro h i; rw [noughts_at]; exact h i
def solveC (n : Nat) (l : List C) : List Int × Bool × Int := lmC l (noughts n) (limC n l 0)
theorem solve_spec {n : Nat} {l : List C} (hn : 0 < n) (hl : ∀ c ∈ l, okC n c = true) :
    ((solveC n l).2.1 = true ∧ LeastM l (noughts n) (solveC n l).1 ∧ ∀ i, (solveC n l).1.getD i 0 ≤ limC n l 0) ∨ ((solveC n l).2.1 = false ∧ (solveC n l).1 = [] ∧ NoModel n l) := by
  have h := lm_spec (l := l) (frm := noughts n) (F := 0) (by rw [noughts_len]; exact hn) (by rw [noughts_len]; exact hl) (fun i _ => by rw [noughts_at]; omega)
  rw [noughts_len] at h
  exact h
theorem solve_iff {n : Nat} {l : List C} (hn : 0 < n) (hl : ∀ c ∈ l, okC n c = true) : (solveC n l).2.1 = false ↔ NoModel n l := by
  rcases solve_spec hn hl with ⟨h1, h2, _⟩ | ⟨h1, _, h2⟩
  · refine ⟨fun h => (by rw [h] at h1; cases h1), fun h => (h _ (by rw [h2.len, noughts_len]) (le_noughts.1 h2.ge) h2.holds).elim⟩
  · exact ⟨fun _ => h2, fun _ => h1⟩
end Pi


set_option linter.unusedSimpArgs false
set_option linter.unusedVariables false
namespace Pi
/-- The places below n that are bits of S. -/
def bitsL (S n : Nat) : List Nat := (List.range n).filter fun i => S.testBit i
def offB (S i : Nat) : Nat := (BitVec.ofNat 64 S &&& ~~~(BitVec.ofNat 64 (2 ^ i))).toNat
/-- All but one. -/
def lessL (l : List Nat) (i : Nat) : List Nat := l.filter (· ≠ i)
theorem mem_less {l : List Nat} {i j : Nat} : j ∈ lessL l i ↔ j ∈ l ∧ j ≠ i := by unfold lessL; simp [List.mem_filter]
theorem less_len (l : List Nat) (i : Nat) : (lessL l i).length ≤ l.length := List.length_filter_le _ _
theorem offB_lt (S i : Nat) : offB S i < 2 ^ 64 := BitVec.isLt _
theorem offB_bit {S i j : Nat} (hj : j < 64) : (offB S i).testBit j = (S.testBit j && decide (j ≠ i)) := by
  unfold offB
  rw [BitVec.testBit_toNat]
  simp only [BitVec.getLsbD_and, BitVec.getLsbD_not, BitVec.getLsbD_ofNat, hj, decide_true, Bool.true_and, Nat.testBit_two_pow]
  by_cases h : i = j
  · simp [h]
  · simp [h, Ne.symm h]
theorem bits_off {S i n : Nat} (hn : n ≤ 64) : bitsL (offB S i) n = lessL (bitsL S n) i := by
  unfold bitsL lessL
  rw [List.filter_filter]
  apply List.filter_congr
  intro j hj
  rw [offB_bit (by have := List.mem_range.1 hj; omega)]
  rw [Bool.and_comm]
theorem bits_full {n : Nat} : bitsL (2 ^ n - 1) n = List.range n := by
  unfold bitsL
  rw [List.filter_eq_self]
  intro j hj
  rw [Nat.testBit_two_pow_sub_one]
  simpa using hj
theorem has_bit (S i : Nat) : (S / 2 ^ i % 2 ≠ 0) ↔ S.testBit i = true := by
  rw [Nat.testBit_eq_decide_div_mod_eq]
  simp
def pickC (l : List C) (p : List Nat) : List C := p.map fun i => l.getD i default
theorem pick_mem {l : List C} {p : List Nat} (hp : ∀ i ∈ p, i < l.length) {c : C} (h : c ∈ pickC l p) : c ∈ l := by
  obtain ⟨i, hi, rfl⟩ := List.mem_map.1 h
  have := hp i hi
  simp [this]
def lostC (n : Nat) (l : List C) : Bool := !(solveC n l).2.1
theorem lost_iff {n : Nat} {l : List C} (hn : 0 < n) (hl : ∀ c ∈ l, okC n c = true) : lostC n l = true ↔ NoModel n l := by
  unfold lostC
  rw [Bool.not_eq_true', solve_iff hn hl]
theorem lost_nil {n : Nat} (hn : 0 < n) : lostC n [] = false := by
  rw [← Bool.not_eq_true, lost_iff hn (fun c hc => by cases hc)]
  intro h
  exact h (noughts n) (noughts_len n) (fun i => by rw [noughts_at]; omega) (fun c hc => by cases hc)
/-- One place after the other is left out, if there still is no model. -/
def stepL (n : Nat) (l : List C) (now : List Nat) (i : Nat) : List Nat := if lostC n (pickC l (lessL now i)) then lessL now i else now
def coreL (n : Nat) (l : List C) : List Nat := (List.range l.length).foldl (stepL n l) (List.range l.length)
end Pi


set_option linter.unusedSimpArgs false
set_option linter.unusedVariables false
namespace Pi
/-- Where the first thing stands of which it holds; -1: nowhere. -/
def idxS {α : Type} (p : α → Bool) (l : List α) : Int := match l.findIdx? p with | some i => i | none => -1
theorem idx_ge {α : Type} (p : α → Bool) (l : List α) : decide (0 ≤ idxS p l) = l.any p := by
  unfold idxS
  cases h : l.findIdx? p with
  | none =>
    rw [List.findIdx?_eq_none_iff] at h
    simp
    intro x hx
    simpa using h x hx
  | some i =>
    rw [List.findIdx?_eq_some_iff_getElem] at h
    obtain ⟨h1, h2, _⟩ := h
    simp
    exact ⟨l[i], List.getElem_mem h1, h2⟩
theorem idx_take {α : Type} {p : α → Bool} {l : List α} {i : Nat} (hi : i < l.length) (h : (l.take i).all (fun a => !p a) = true) : (p l[i] = true → idxS p l = i) ∧ (p l[i] = false → (l.take (i + 1)).all (fun a => !p a) = true) := by
  refine ⟨fun hp => ?_, fun hp => ?_⟩
  · unfold idxS
    have : l.findIdx? p = some i := by
      rw [List.findIdx?_eq_some_iff_getElem]
      refine ⟨hi, hp, fun j hj => ?_⟩
      have := List.all_eq_true.1 h l[j] (by rw [List.mem_take_iff_getElem]; exact ⟨j, by omega, rfl⟩)
      simpa using this
    rw [this]
  · rw [List.take_succ_eq_append_getElem hi, List.all_append, h]
    simp [hp]
theorem idx_all {α : Type} {p : α → Bool} {l : List α} (h : l.all (fun a => !p a) = true) : idxS p l = -1 := by
  unfold idxS
  have : l.findIdx? p = none := by
    rw [List.findIdx?_eq_none_iff]
    intro x hx
    simpa using List.all_eq_true.1 h x hx
  rw [this]
/-- Numbers from 0 to 2^40. -/
def Nats (l : List Int) : Prop := ∀ a ∈ l, 0 ≤ a ∧ a ≤ 1099511627776
theorem Nats.getD {l : List Int} (h : Nats l) (i : Nat) : 0 ≤ l.getD i 0 ∧ l.getD i 0 ≤ 1099511627776 := by
  by_cases hi : i < l.length
  · have : l.getD i 0 = l[i] := by simp [hi]
    rw [this]
    exact h _ (List.getElem_mem hi)
  · have : l.getD i 0 = 0 := by simp [List.getElem?_eq_none (by omega : l.length ≤ i)]
    omega
theorem getD_get {α : Type} (l : List α) (d : α) {i : Nat} (h : i < l.length) : l.getD i d = l[i] := by simp [h]
theorem take_set {α : Type} {cs : List α} {j : Nat} {v : α} (h : j < cs.length) : cs.take j ++ v :: cs.drop (j + 1) = cs.set j v := by
  rw [List.set_eq_take_append_cons_drop, if_pos h]
theorem take_any {α : Type} {p : α → Bool} {l : List α} {k : Nat} (hk : k < l.length) : (l.take (k + 1)).any p = ((l.take k).any p || p l[k]) := by
  rw [List.take_succ_eq_append_getElem hk, List.any_append]
  simp
theorem take_all {α : Type} {p : α → Bool} {l : List α} {k : Nat} (hk : k < l.length) (h : (l.take k).all p = true) (hp : p l[k] = true) : (l.take (k + 1)).all p = true := by
  rw [List.take_succ_eq_append_getElem hk, List.all_append, h]
  simp [hp]
theorem all_at {α : Type} {p : α → Bool} {l : List α} {k : Nat} (hk : k < l.length) (hp : p l[k] = false) : l.all p = false := List.all_eq_false.2 ⟨_, List.getElem_mem hk, by simp [hp]⟩
theorem any_at {α : Type} {p : α → Bool} {l : List α} {k : Nat} (hk : k < l.length) (hp : p l[k] = true) : l.any p = true := List.any_eq_true.2 ⟨_, List.getElem_mem hk, hp⟩
theorem flatI_map (q : List Int) : q.flatMap cI = q.map (V.i .i64) := by induction q <;> simp_all
theorem flatI_len (q : List Int) : (q.flatMap cI).length = q.length := by rw [flatI_map, List.length_map]
theorem flatI_get {q : List Int} {i : Nat} (h : i < (q.flatMap cI).length) : (q.flatMap cI)[i] = V.i .i64 (q[i]'(by rw [flatI_len] at h; exact h)) := by simp [flatI_map]
theorem flatI_set {l : List Int} {j : Nat} {v : Int} (h : j < l.length) : (l.flatMap cI).take j ++ V.i .i64 v :: (l.flatMap cI).drop (j + 1) = (l.set j v).flatMap cI := by
  rw [flatI_map, flatI_map, take_set (by simpa using h), List.map_set]
theorem flatI_all {q : List Int} {n : Nat} (h : n = q.length) : (q.flatMap cI).take n = q.flatMap cI := List.take_of_length_le (by rw [flatI_len]; omega)
end Pi

