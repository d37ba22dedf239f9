/- Flats: how they fill cells. -/
import Derived.Test.YtjaoacpemboakaaCIdx
set_option linter.unusedSimpArgs false
set_option linter.unusedVariables false
namespace Pi
structure F where
  cst : Int
  offs : List Int
  deriving Inhabited, DecidableEq
def cF (f : F) : List V := [.i .i64 f.cst, sV cI f.offs]
@[simp] theorem cF_len (f : F) : (cF f).length = 2 := rfl
@[simp] theorem cF_fz (f : F) (D : Nat → Option (Bool × List V × List V × List Nat)) : frzL D (cF f) = some (cF f, []) := by simp [cF]
instance : Cel cF 2 := ⟨cF_len, by decide, cF_fz⟩
@[simp] theorem cF_0 (f : F) : (cF f)[0]? = some (.i .i64 f.cst) := rfl
@[simp] theorem cF_1 (f : F) : (cF f)[1]? = some (sV cI f.offs) := rfl
@[simp] theorem cF_take (f : F) : (cF f).take 2 = cF f := rfl
@[simp] theorem cF_drop (f : F) : (cF f).drop 2 = [] := rfl
theorem cF_mk (n : Int) (l : List Int) : [V.i .i64 n, sV cI l] = cF ⟨n, l⟩ := rfl
def F.Ok (f : F) : Prop := (-9223372036854775808 ≤ f.cst ∧ f.cst < 9223372036854775808) ∧ f.offs.length ≤ 140737488351232 ∧ ∀ a ∈ f.offs, -9223372036854775808 ≤ a ∧ a < 9223372036854775808
/-- What flats are, in plain Lean. -/
def topF (f : F) : Int := f.offs.foldl max (-1)
def oddO (n : Int) : Bool := decide (n < -1) || decide (1000 < n)
def rightF (f : F) : Bool := decide (f.offs.length ≤ 5) && decide (0 ≤ f.cst) && decide (f.cst ≤ 1000) && !(f.offs.any oddO) && (decide (topF f = -1) || decide (f.cst = 0) || decide (topF f + 1 < f.cst))
def valL : List Int → List Int → Int → Int
  | n :: ns, p :: ps, o => valL ns ps (if n = -1 then o else max o (p + n))
  | _, _, o => o
def valueV (f : F) (ps : List Int) : V := if rightF f = false ∨ ps.length ≠ f.offs.length ∨ ps.any oddN = true then .tu [.i .i64 0, .i .i64 1] else .tu [.i .i64 (valL f.offs ps f.cst), .i .i64 0]
def leqL : List Int → List Int → Bool
  | a :: as, b :: bs => decide (a ≤ b) && leqL as bs
  | _, _ => true
def leqF (a b : F) : Bool := rightF a && rightF b && decide (a.offs.length = b.offs.length) && leqL a.offs b.offs && decide (a.cst ≤ max b.cst (topF b + 1))
theorem fmax_ge (l : List Int) (t : Int) : t ≤ l.foldl max t := by
  induction l generalizing t with
  | nil => exact Int.le_refl _
  | cons a l ih => exact Int.le_trans (by omega) (ih (max t a))
theorem fmax_mem (l : List Int) (t : Int) : ∀ a ∈ l, a ≤ l.foldl max t := by
  induction l generalizing t with
  | nil => intro a ha; cases ha
  | cons b l ih =>
    intro a ha
    rcases List.mem_cons.1 ha with rfl | ha
    · exact Int.le_trans (by omega) (fmax_ge l (max t a))
    · exact ih _ a ha
theorem fmax_le (l : List Int) (t M : Int) (ht : t ≤ M) (h : ∀ a ∈ l, a ≤ M) : l.foldl max t ≤ M := by
  induction l generalizing t with
  | nil => exact ht
  | cons b l ih => exact ih _ (by have := h b (by simp); omega) (fun a ha => h a (by simp [ha]))
theorem fmax_at (l : List Int) (t : Int) : l.foldl max t = t ∨ l.foldl max t ∈ l := by
  induction l generalizing t with
  | nil => exact .inl rfl
  | cons b l ih =>
    rcases ih (max t b) with h | h
    · simp only [List.foldl_cons, h]
      by_cases hb : b ≤ t
      · left; omega
      · right; simp; left; omega
    · right; simp [h]
theorem right_F {f : F} (h : rightF f = true) : f.offs.length ≤ 5 ∧ (0 ≤ f.cst ∧ f.cst ≤ 1000) ∧ (∀ a ∈ f.offs, -1 ≤ a ∧ a ≤ 1000) ∧ (topF f = -1 ∨ f.cst = 0 ∨ topF f + 1 < f.cst) ∧ (-1 ≤ topF f ∧ topF f ≤ 1000) := by
  simp only [rightF, Bool.and_eq_true, Bool.or_eq_true, decide_eq_true_eq, Bool.not_eq_true', List.any_eq_false] at h
  obtain ⟨⟨⟨⟨h1, h2⟩, h3⟩, h4⟩, h5⟩ := h
  have h6 : ∀ a ∈ f.offs, -1 ≤ a ∧ a ≤ 1000 := fun a ha => by
    have := h4 a ha
    simp [oddO] at this
    omega
  exact ⟨h1, ⟨h2, h3⟩, h6, by omega, fmax_ge _ _, fmax_le _ _ _ (by omega) (fun a ha => (h6 a ha).2)⟩
end Pi
