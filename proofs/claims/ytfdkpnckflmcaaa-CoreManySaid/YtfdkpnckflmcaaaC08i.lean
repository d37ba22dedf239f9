/- Laws of layer 8: clauses and models by numbers. -/
import Derived.Test.YtfdkpnckflmcaaaC08h
set_option linter.unusedSimpArgs false
set_option linter.unusedVariables false
namespace Pi
theorem tmod_nat (a b : Nat) : (a : Int).tmod b = ((a % b : Nat) : Int) := by rw [Int.tmod_eq_emod_of_nonneg (by omega)]; rfl
theorem tdiv_nat (a b : Nat) : (a : Int).tdiv b = ((a / b : Nat) : Int) := by rw [Int.tdiv_eq_ediv_of_nonneg (by omega)]; rfl
theorem law08_Vars.a (n : Nat) (hn : n < 256) : Ans ctx law08_Vars.n [.i .u8 n] (.i .i64 (varsB n : Nat)) := by
  refine ans law08_Vars.f ?_
  simp +contextual (disch := omega) [Nat.add_assoc, Int.add_assoc, if_pos, if_neg, -Int.not_lt, -Int.not_le, -Nat.not_lt, -Nat.not_le, -List.length_flatMap, law08_Vars.c, varsB, Int.tmod_eq_emod_of_nonneg]
def modelI (l : List Nat) (vars i : Nat) : List Int := (List.range vars).map fun j => if j < i then ((l[j]?.getD 0 % 12 : Nat) : Int) else 0
theorem modelI_s {l : List Nat} {vars i : Nat} (h : i < l.length) (hv : i < vars) : modelI l vars (i + 1) = (modelI l vars i).set i ((l[i] % 12 : Nat) : Int) := by
  apply List.ext_getElem
  · simp [modelI]
  · intro j h1 h2
    simp only [modelI, List.getElem_set, List.getElem_map, List.getElem_range]
    by_cases hj : i = j
    · subst hj; simp [h]
    · rw [if_neg hj]
      by_cases hlt : j < i
      · rw [if_pos hlt, if_pos (by omega)]
      · rw [if_neg hlt, if_neg (by omega)]
theorem modelI_e (l : List Nat) (n : Nat) : modelI l (varsB n) (min l.length (varsB n)) = modelB n l := by
  unfold modelI modelB
  apply List.map_congr_left
  intro j hj
  have := List.mem_range.1 hj
  split
  · rfl
  · rw [List.getElem?_eq_none (by omega)]; rfl
theorem law08_Model.a (n : Nat) (hn : n < 256) (l : List Nat) (hb : Byt l) (hl : l.length ≤ 9223372036854775807) : Ans ctx law08_Model.n [.i .u8 n, sV cU l] (sV cI (modelB n l)) := by
  refine ans law08_Model.f ?_
  have hv : 1 ≤ varsB n ∧ varsB n ≤ 8 := by unfold varsB; omega
  simp +contextual (disch := omega) [Nat.add_assoc, Int.add_assoc, if_pos, if_neg, -Int.not_lt, -Int.not_le, -Nat.not_lt, -Nat.not_le, -List.length_flatMap, law08_Model.c, ansK (law08_Vars.a n hn)]
  refine for_w (fun i e m x => e 1 = sV cU l ∧ e 5 = .ms 2 0 (varsB n) 1 ∧ e 6 = .i .i64 i ∧ 3 ≤ x ∧ m 2 = some (.cells ((modelI l (varsB n) i).flatMap cI) false)) (min l.length (varsB n)) ?_ ?_ ?_
  · have e0 : (modelI l (varsB n) 0).flatMap cI = zeros [V.i .i64 0] (varsB n) := by
      generalize varsB n = v
      unfold modelI
      simp only [Nat.not_lt_zero, if_false]
      induction v with
      | zero => rfl
      | succ v ih => rw [List.range_succ_eq_map, List.map_cons, List.flatMap_cons, List.map_map, zeros, ← ih]; rfl
    simp +contextual (disch := omega) [Nat.add_assoc, Int.add_assoc, if_pos, if_neg, -Int.not_lt, -Int.not_le, -Nat.not_lt, -Nat.not_le, -List.length_flatMap, e0]
  · rintro i e m x hi ⟨g1, g2, g3, g4, g5⟩
    have h1 : i < l.length := by omega
    have h2 : i < varsB n := by omega
    have e1 := modelI_s h1 h2
    have hbi := hb.at h1
    have hlen : (modelI l (varsB n) i).length = varsB n := by simp [modelI]
    have h12 : (l[i] : Int) % 12 = ((l[i] % 12 : Nat) : Int) := rfl
    simp +contextual (disch := omega) [Nat.add_assoc, Int.add_assoc, if_pos, if_neg, -Int.not_lt, -Int.not_le, -Nat.not_lt, -Nat.not_le, -List.length_flatMap, law08_Model.b1, g1, g2, g3, g5, h1, h2, Int.tmod_eq_emod_of_nonneg, hlen]
    rw [flatI_set (by omega), e1, h12]
  · rintro e m x ⟨g1, g2, g3, g4, g5⟩
    rw [modelI_e] at g5
    have hB : Bf m (.ms 2 0 (varsB n) 1) cI 1 (modelB n l) 0 x := .mem g5 rfl (modelB_len n l).symm (by omega) (by omega)
    have hz := hB.fz24
    have hln := hB.len
    rw [modelB_len] at hln
    generalize V.ms 2 0 (varsB n) 1 = BB at g2 hz hln
    by_cases h : l.length < varsB n
    · have e3 : min l.length (varsB n) = l.length := by omega
      rw [e3] at g3
      simp +contextual (disch := omega) [Nat.add_assoc, Int.add_assoc, if_pos, if_neg, -Int.not_lt, -Int.not_le, -Nat.not_lt, -Nat.not_le, -List.length_flatMap, law08_Model.b1, g1, g2, g3, hz, hln]
    · have e3 : min l.length (varsB n) = varsB n := by omega
      rw [e3] at g3
      by_cases h4 : varsB n < l.length
      · simp +contextual (disch := omega) [Nat.add_assoc, Int.add_assoc, if_pos, if_neg, -Int.not_lt, -Int.not_le, -Nat.not_lt, -Nat.not_le, -List.length_flatMap, law08_Model.b1, g1, g2, g3, hz, h4, hln]
      · simp +contextual (disch := omega) [Nat.add_assoc, Int.add_assoc, if_pos, if_neg, -Int.not_lt, -Int.not_le, -Nat.not_lt, -Nat.not_le, -List.length_flatMap, law08_Model.b1, g1, g2, g3, hz, h4, hln]
theorem madeB_len (vars k : Nat) : ∀ l, (madeB vars k l).length ≤ k := by
  induction k with
  | zero => intro l; simp [madeB]
  | succ k ih =>
    intro l
    unfold madeB
    split
    · simp
    · have := ih (l.drop (manyB l + 1)); simp; omega
theorem clauseB_cut {vars : Nat} {r : List Nat} {n : Nat} (hn : n = min (manyB r + 1) r.length) : clauseB vars r = ⟨(r.take (min n (manyB r))).map (atomB vars), (r[manyB r]?.map (atomB vars)).getD ⟨0, 0⟩⟩ := by
  unfold clauseB
  congr 1
  by_cases h : r.length ≤ manyB r
  · rw [List.take_of_length_le h, List.take_of_length_le (by omega)]
  · congr 2
    omega
end Pi
