/- The least model of clauses: what rounds tell, and what follows from it, in plain Lean. -/
import Derived.Test.YtfdkpnckflmcaaaC09a
set_option linter.unusedSimpArgs false
set_option linter.unusedVariables false
namespace Pi
structure LeastM (l : List C) (frm out : List Int) : Prop where
  len : out.length = frm.length
  ge : LeM frm out
  holds : holdsC l out
  least : ∀ M, M.length = frm.length → LeM frm M → holdsC l M → LeM out M
theorem LeastM.unique {l l' : List C} {frm a b : List Int} (h : LeastM l frm a) (k : LeastM l' frm b) (hl : ∀ M, holdsC l M ↔ holdsC l' M) : a = b :=
  LeM.anti (h.len.trans k.len.symm) (h.least b k.len k.ge ((hl b).2 k.holds)) (k.least a h.len h.ge ((hl a).1 h.holds))
def limC (n : Nat) (l : List C) (F : Int) : Int := F + ((n : Int) - 1) * mostS l
/-- Rounds from some values on, up to a limit. -/
def lmC (l : List C) (frm : List Int) (most : Int) : List Int × Bool × Int := runC (roomC most frm + 1) l most frm 0
def NoModel (n : Nat) (l : List C) : Prop := ∀ M : List Int, M.length = n → (∀ i, 0 ≤ M.getD i 0) → ¬ holdsC l M
theorem limC_ge {n : Nat} (hn : 0 < n) (l : List C) (F : Int) : F ≤ limC n l F := by
  have := Int.mul_nonneg (by omega : 0 ≤ (n : Int) - 1) (mostS_nonneg l)
  unfold limC
  omega
theorem lm_spec {l : List C} {frm : List Int} {F : Int} (hn : 0 < frm.length) (hl : ∀ c ∈ l, okC frm.length c = true) (hF : ∀ i, i < frm.length → 0 ≤ frm.getD i 0 ∧ frm.getD i 0 ≤ F) :
    ((lmC l frm (limC frm.length l F)).2.1 = true ∧ LeastM l frm (lmC l frm (limC frm.length l F)).1 ∧ ∀ i, (lmC l frm (limC frm.length l F)).1.getD i 0 ≤ limC frm.length l F) ∨
    ((lmC l frm (limC frm.length l F)).2.1 = false ∧ (lmC l frm (limC frm.length l F)).1 = [] ∧ NoModel frm.length l) := by
  have hF0 := hF 0 hn
  have hlim := limC_ge hn l F
  have h0 : 0 ≤ limC frm.length l F := by omega
  have hstart : greatC (limC frm.length l F) frm = false := (great_false h0).2 fun i => by
    by_cases hi : i < frm.length
    · have := hF i hi; omega
    · simp [List.getElem?_eq_none (by omega : frm.length ≤ i)]; exact h0
  have h := run_ok h0 hl (roomC (limC frm.length l F) frm + 1) frm 0 rfl (.refl _) hstart (fun M _ q _ => q) (by omega)
  cases hb : (lmC l frm (limC frm.length l F)).2.1 with
  | true =>
    obtain ⟨q1, q2, q3, q4, q5⟩ := h.1 hb
    exact .inl ⟨rfl, ⟨q1, q2, q3, q5⟩, (great_false h0).1 q4⟩
  | false =>
    obtain ⟨q1, q2⟩ := h.2 hb
    refine .inr ⟨rfl, q1, fun M hM hpos hh => ?_⟩
    have hsh : LeM frm (M.map (· + F)) := by
      intro i
      by_cases hi : i < frm.length
      · have e : (M.map (· + F)).getD i 0 = M.getD i 0 + F := by
          have : i < M.length := by omega
          simp [this]
        rw [e]
        have := hF i hi
        have := hpos i
        omega
      · simp [List.getElem?_eq_none (by omega : frm.length ≤ i), List.getElem?_eq_none (by omega : M.length ≤ i)]
    obtain ⟨M', p1, p2, p3, p4⟩ := small_model (F := F) hn rfl hl hF _ (M.map (· + F)) rfl (by simp [hM]) hsh (holds_shift hM hl F hh)
    have := q2 M' p1 p2 p3
    unfold limC at this
    rw [this] at p4
    cases p4
/-- From noughts on. -/
def noughts (n : Nat) : List Int := List.replicate n 0
theorem noughts_at (n i : Nat) : (noughts n).getD i 0 = 0 := by
  unfold noughts
  by_cases h : i < n
  · simp [h]
  · simp [List.getElem?_eq_none (by simpa using h : (List.replicate n (0 : Int)).length ≤ i)]
theorem noughts_len (n : Nat) : (noughts n).length = n := by simp [noughts]
theorem le_noughts {n : Nat} {M : List Int} : LeM (noughts n) M ↔ ∀ i, 0 ≤ M.getD i 0 := by
  unfold LeM
  constructor
  · intro h i; have := h i; rw [noughts_at] at this; exact this
  · intro h i; rw [noughts_at]; exact h i
def solveC (n : Nat) (l : List C) : List Int × Bool × Int := lmC l (noughts n) (limC n l 0)
theorem solve_spec {n : Nat} {l : List C} (hn : 0 < n) (hl : ∀ c ∈ l, okC n c = true) :
    ((solveC n l).2.1 = true ∧ LeastM l (noughts n) (solveC n l).1 ∧ ∀ i, (solveC n l).1.getD i 0 ≤ limC n l 0) ∨ ((solveC n l).2.1 = false ∧ (solveC n l).1 = [] ∧ NoModel n l) := by
  have h := lm_spec (l := l) (frm := noughts n) (F := 0) (by rw [noughts_len]; exact hn) (by rw [noughts_len]; exact hl) (fun i _ => by rw [noughts_at]; omega)
  rw [noughts_len] at h
  exact h
theorem solve_iff {n : Nat} {l : List C} (hn : 0 < n) (hl : ∀ c ∈ l, okC n c = true) : (solveC n l).2.1 = false ↔ NoModel n l := by
  rcases solve_spec hn hl with ⟨h1, h2, _⟩ | ⟨h1, _, h2⟩
  · refine ⟨fun h => (by rw [h] at h1; cases h1), fun h => (h _ (by rw [h2.len, noughts_len]) (le_noughts.1 h2.ge) h2.holds).elim⟩
  · exact ⟨fun _ => h2, fun _ => h1⟩
theorem holds_app {a b : List C} {M : List Int} : holdsC (a ++ b) M ↔ holdsC a M ∧ holdsC b M := by
  unfold holdsC
  constructor
  · intro h; exact ⟨fun c hc => h c (by simp [hc]), fun c hc => h c (by simp [hc])⟩
  · rintro ⟨h1, h2⟩ c hc
    rcases List.mem_append.1 hc with hc | hc
    · exact h1 c hc
    · exact h2 c hc
theorem NoModel.more {n : Nat} {l l' : List C} (h : NoModel n l) (hs : ∀ c ∈ l, c ∈ l') : NoModel n l' := fun M h1 h2 h3 => h M h1 h2 fun c hc => h3 c (hs c hc)
end Pi
