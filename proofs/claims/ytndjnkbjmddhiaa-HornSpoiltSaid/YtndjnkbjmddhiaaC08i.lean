/- Laws of layer 8: clauses and models by numbers. -/
import Derived.Test.YtndjnkbjmddhiaaC08h
set_option linter.unusedSimpArgs false
set_option linter.unusedVariables false
namespace Pi
theorem tmod_nat (a b : Nat) : (a : Int).tmod b = ((a % b : Nat) : Int) := by rw [Int.tmod_eq_emod_of_nonneg (by omega)]; rfl
theorem tdiv_nat (a b : Nat) : (a : Int).tdiv b = ((a / b : Nat) : Int) := by rw [Int.tdiv_eq_ediv_of_nonneg (by omega)]; rfl
theorem law08_Vars.a (n : Nat) (hn : n < 256) : Ans ctx law08_Vars.n [.i .u8 n] (.i .i64 (varsB n : Nat)) := by
  refine ans law08_Vars.f ?_
  simp +contextual (disch := omega) [Nat.add_assoc, Int.add_assoc, if_pos, if_neg, -Int.not_lt, -Int.not_le, -Nat.not_lt, -Nat.not_le, -List.length_flatMap, law08_Vars.c, varsB, Int.tmod_eq_emod_of_nonneg]
def modelI (l : List Nat) (vars i : Nat) : List Int := (List.range vars).map fun j => if j < i then ((l[j]?.getD 0 % 12 : Nat) : Int) else 0
theorem modelI_s {l : List Nat} {vars i : Nat} (h : i < l.length) (hv : i < vars) : modelI l vars (i + 1) = (modelI l vars i).set i ((l[i] % 12 : Nat) : Int) := by
  apply List.ext_getElem
  · simp [modelI]
  · intro j h1 h2
    simp only [modelI, List.getElem_set, List.getElem_map, List.getElem_range]
    by_cases hj : i = j
    · subst hj; simp [h]
    · rw [if_neg hj]
      by_cases hlt : j < i
      · rw [if_pos hlt, if_pos (by omega)]
      · rw [if_neg hlt, if_neg (by omega)]
theorem modelI_e (l : List Nat) (n : Nat) : modelI l (varsB n) (min l.length (varsB n)) = modelB n l := by
  unfold modelI modelB
  apply List.map_congr_left
  intro j hj
  have := List.mem_range.1 hj
  split
  · rfl
  · rw [List.getElem?_eq_none (by omega)]; rfl
theorem madeB_len (vars k : Nat) : ∀ l, (madeB vars k l).length ≤ k := by
  induction k with
  | zero => intro l; simp [madeB]
  | succ k ih =>
    intro l
    unfold madeB
    split
    · simp
    · have := ih (l.drop (manyB l + 1)); simp; omega
theorem clauseB_cut {vars : Nat} {r : List Nat} {n : Nat} (hn : n = min (manyB r + 1) r.length) : clauseB vars r = ⟨(r.take (min n (manyB r))).map (atomB vars), (r[manyB r]?.map (atomB vars)).getD ⟨0, 0⟩⟩ := by
  unfold clauseB
  congr 1
  by_cases h : r.length ≤ manyB r
  · rw [List.take_of_length_le h, List.take_of_length_le (by omega)]
  · congr 2
    omega
end Pi
