/- Clauses and models by numbers, in plain Lean. -/
import Derived.Test.YtfdkpnckflmcaaaC08b
set_option linter.unusedSimpArgs false
set_option linter.unusedVariables false
namespace Pi
def atomB (vars b : Nat) : A := ⟨((b / 4 % vars : Nat) : Int), ((b / 32 % 3 : Nat) : Int)⟩
def manyB (l : List Nat) : Nat := 1 + l.getD 0 0 % 3
def clauseB (vars : Nat) (l : List Nat) : C := ⟨(l.take (manyB l)).map (atomB vars), (l[manyB l]?.map (atomB vars)).getD ⟨0, 0⟩⟩
def madeB (vars k : Nat) (l : List Nat) : List C := match k with
  | 0 => []
  | k + 1 => if l = [] then [] else clauseB vars l :: madeB vars k (l.drop (manyB l + 1))
def varsB (n : Nat) : Nat := 1 + n % 8
def madeC (n : Nat) (l : List Nat) : List C := madeB (varsB n) 30 l
def modelB (n : Nat) (l : List Nat) : List Int := (List.range (varsB n)).map fun i => ((l[i]?.getD 0 % 12 : Nat) : Int)
theorem modelB_len (n : Nat) (l : List Nat) : (modelB n l).length = varsB n := by simp [modelB]
theorem modelB_bd (n : Nat) (l : List Nat) (j : Nat) : 0 ≤ (modelB n l).getD j 0 ∧ (modelB n l).getD j 0 ≤ 11 := by
  by_cases h : j < varsB n
  · simp [modelB, h]; omega
  · simp [modelB, h, List.getElem?_eq_none]
theorem atomB_ok (vars b : Nat) (hv : 0 < vars) : okA vars (atomB vars b) = true := by
  have := Nat.mod_lt (b / 4) hv
  have := Nat.mod_lt (b / 32) (by omega : 3 > 0)
  unfold atomB
  generalize b / 4 % vars = x at *
  generalize b / 32 % 3 = y at *
  simp only [okA, Bool.and_eq_true, decide_eq_true_eq]
  omega
theorem clauseB_ok (vars : Nat) (l : List Nat) (hv : 0 < vars) (hl : l ≠ []) : okC vars (clauseB vars l) = true := by
  have h0 : 0 < l.length := List.length_pos_iff.2 hl
  have hm : 1 ≤ manyB l ∧ manyB l ≤ 3 := by unfold manyB; omega
  unfold okC
  simp only [Bool.and_eq_true, Bool.not_eq_true', List.all_eq_true]
  constructor
  · simp [manyC, clauseB]
    omega
  · intro a ha
    simp only [clauseB, List.mem_append, List.mem_map, List.mem_singleton] at ha
    rcases ha with ⟨b, _, rfl⟩ | rfl
    · exact atomB_ok vars b hv
    · cases l[manyB l]? with
      | none => simp [okA]; omega
      | some b => exact atomB_ok vars b hv
theorem madeB_ok (vars : Nat) (hv : 0 < vars) (k : Nat) : ∀ l, (madeB vars k l).length ≤ k ∧ ∀ c ∈ madeB vars k l, okC vars c = true := by
  induction k with
  | zero => intro l; simp [madeB]
  | succ k ih =>
    intro l
    unfold madeB
    by_cases h : l = []
    · simp [h]
    · rw [if_neg h]
      obtain ⟨h1, h2⟩ := ih (l.drop (manyB l + 1))
      refine ⟨by simp; omega, fun c hc => ?_⟩
      simp at hc
      rcases hc with rfl | hc
      · exact clauseB_ok vars l hv h
      · exact h2 c hc
theorem madeC_right (n : Nat) (l : List Nat) : rightC (varsB n) (madeC n l) = true := by
  obtain ⟨h1, h2⟩ := madeB_ok (varsB n) (by unfold varsB; omega) 30 l
  have : varsB n ≤ 8 ∧ 1 ≤ varsB n := by unfold varsB; omega
  simp only [rightC, Bool.and_eq_true, decide_eq_true_eq, List.all_eq_true]
  exact ⟨⟨⟨by omega, by omega⟩, by unfold madeC; omega⟩, h2⟩
theorem okC_Ok {vars : Int} (hv : vars ≤ 16) {c : C} (h : okC vars c = true) : c.Ok := by
  unfold okC at h
  simp only [Bool.and_eq_true, Bool.not_eq_true', List.all_eq_true] at h
  obtain ⟨h1, h2⟩ := h
  have ok : ∀ a ∈ c.frm ++ [c.to], a.Ok := by
    intro a ha
    have := h2 a ha
    simp only [okA, Bool.and_eq_true, decide_eq_true_eq] at this
    unfold A.Ok
    omega
  refine ⟨?_, fun a ha => ok a (by simp [ha]), ok _ (by simp)⟩
  simp [manyC] at h1
  omega
end Pi
