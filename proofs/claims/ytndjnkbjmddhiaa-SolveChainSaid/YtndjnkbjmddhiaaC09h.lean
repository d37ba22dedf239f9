/- Laws of layer 9: From. -/
import Derived.Test.YtndjnkbjmddhiaaC09g
set_option linter.unusedSimpArgs false
set_option linter.unusedVariables false
namespace Pi
theorem lm_self {l : List C} {frm out : List Int} {F : Int} (hn : 0 < frm.length) (hl : ∀ c ∈ l, okC frm.length c = true) (h : LeastM l frm out) (hF : ∀ i, i < frm.length → 0 ≤ out.getD i 0 ∧ out.getD i 0 ≤ F) :
    (lmC l out (limC out.length l F)).2.1 = true ∧ (lmC l out (limC out.length l F)).1 = out := by
  have hlen := h.len
  rcases lm_spec (frm := out) (F := F) (by omega) (by rw [hlen]; exact hl) (by rw [hlen]; exact hF) with ⟨h1, h2, _⟩ | ⟨h1, _, h2⟩
  · exact ⟨h1, h2.unique (l' := l) ⟨rfl, .refl _, h.holds, fun M _ h _ => h⟩ fun _ => .rfl⟩
  · refine (h2 out rfl (fun i => ?_) h.holds).elim
    by_cases hi : i < frm.length
    · exact (hF i hi).1
    · simp [List.getElem?_eq_none (by omega : out.length ≤ i)]
def geB (a b : List Int) (i : Nat) : Bool := (List.range i).all fun j => decide (b.getD j 0 ≤ a.getD j 0)
theorem geB_s (a b : List Int) (i : Nat) : geB a b (i + 1) = (geB a b i && decide (b.getD i 0 ≤ a.getD i 0)) := by
  unfold geB
  rw [List.range_succ, List.all_append]
  simp
theorem geB_le {a b : List Int} {n : Nat} (ha : a.length = n) (hb : b.length = n) (h : geB a b n = true) : LeM b a := by
  intro i
  by_cases hi : i < n
  · unfold geB at h
    rw [List.all_eq_true] at h
    simpa using h i (List.mem_range.2 hi)
  · simp [List.getElem?_eq_none (by omega : a.length ≤ i), List.getElem?_eq_none (by omega : b.length ≤ i)]
set_option maxRecDepth 20000 in
set_option maxHeartbeats 1000000 in
theorem law09_SolveFrom.a (n : Nat) (hn : n < 256) (l v u : List Nat) (hb : Byt l) (hl : l.length ≤ 9223372036854775807) (hbv : Byt v) (hlv : v.length ≤ 9223372036854775807) (hbu : Byt u) (hlu : u.length ≤ 9223372036854775807) : Ans ctx law09_SolveFrom.n [.i .u8 n, sV cU l, sV cU v, sV cU u] (.b true) := by
  refine ans law09_SolveFrom.f ?_
  have h1 := made_len n l
  have h2 := modelB_len n v
  have h2u := modelB_len n u
  have h3 := varsB_bd n
  have hR := madeC_right n l
  have hO := made_ok n l
  have hS := made_six n l
  have hN := modelB_nats n v
  have hNu := modelB_nats n u
  have hnl := noughts_len (varsB n)
  have hSv := solve_Solve.a (varsB n) (madeC n l) (by omega) hS
  rw [solveV, if_pos hR] at hSv
  simp only [Int.toNat_natCast] at hSv
  have hZ : Ans ctx solve_From.n [sV cC (madeC n l), .sl ((noughts (varsB n)).flatMap cI) (varsB n)] (fromV (madeC n l) (noughts (varsB n))) := by
    have e : sV cI (noughts (varsB n)) = .sl ((noughts (varsB n)).flatMap cI) (varsB n) := by unfold sV; rw [hnl]
    rw [← e]; exact solve_From.a (madeC n l) (noughts (varsB n)) (by omega) hS (by omega)
  rw [fromV_noughts hR] at hZ
  have hcl : ((noughts (varsB n)).flatMap cI).length = varsB n := by rw [flatI_len, hnl]
  have htk := flatI_all hnl.symm
  have hmv : maxL (modelB n v) ≤ 11 := maxL_le (fun i => (modelB_bd n v i).2) (by omega)
  have hmv0 := (fold_mx (modelB n v) 0).1
  have hF := solve_From.a (madeC n l) (modelB n v) (by omega) hS (by omega)
  rw [fromV_ok (by rw [h2]; exact hR) hN (by omega)] at hF
  have hsm : ∀ i, i < (modelB n v).length → 0 ≤ (modelB n v).getD i 0 ∧ (modelB n v).getD i 0 ≤ maxL (modelB n v) := fun i _ => max_small hN i
  have hvs := lm_vs_solve (l := madeC n l) (frm := modelB n v) (F := maxL (modelB n v)) (by omega) (by rw [h2]; exact hO) hsm
  have hsp := lm_spec (l := madeC n l) (frm := modelB n v) (F := maxL (modelB n v)) (by omega) (by rw [h2]; exact hO) hsm
  rw [h2] at hvs hsp hF
  have hm2 := most_two n l
  have hbd : limC (varsB n) (madeC n l) (maxL (modelB n v)) ≤ 1000 := by
    have : ((varsB n : Int) - 1) * mostS (madeC n l) ≤ 7 * 2 := Int.mul_le_mul (by omega) hm2 (mostS_nonneg _) (by omega)
    unfold limC; omega
  have hBu := ref08_Broken.a (madeC n l) (modelB n u) (by omega) hS (by omega)
  rw [broken_v (by rw [h2u]; exact hR) hNu] at hBu
  revert hF hvs hsp hSv hZ
  generalize lmC (madeC n l) (modelB n v) (limC (varsB n) (madeC n l) (maxL (modelB n v))) = r
  obtain ⟨r1, r2, r3⟩ := r
  have hsl : (solveC (varsB n) (madeC n l)).1.length ≤ 16 := by
    rcases solve_spec (n := varsB n) (l := madeC n l) (by omega) hO with ⟨_, h2, _⟩ | ⟨_, h2, _⟩
    · rw [h2.len, noughts_len]; omega
    · rw [h2]; simp
  generalize solveC (varsB n) (madeC n l) = s at *
  obtain ⟨s1, s2, s3⟩ := s
  intro hSv hZ hF hvs hsp
  simp only at hF hvs hsp hSv hZ hsl
  subst hvs
  have hI := ref08_Ints.a s1 s1 (by omega)
  rcases hsp with ⟨e, LM, lim⟩ | ⟨e, e1, NM⟩
  · subst e
    have hrl : r1.length = varsB n := by rw [LM.len, h2]
    have hr0 : ∀ i : Nat, 0 ≤ r1.getD i 0 := fun i => Int.le_trans (modelB_bd n v i).1 (LM.ge i)
    have hrN : Nats r1 := nats_small (fun i => ⟨hr0 i, lim i⟩) (by omega)
    have hmr : maxL r1 ≤ 1000 := maxL_le (fun i => Int.le_trans (lim i) hbd) (by omega)
    have hG := solve_From.a (madeC n l) r1 (by omega) hS (by omega)
    rw [fromV_ok (by rw [hrl]; exact hR) hrN hmr] at hG
    obtain ⟨p1, p2⟩ := lm_self (F := maxL r1) (by omega) (by rw [h2]; exact hO) LM (fun i _ => max_small hrN i)
    rw [p1, p2] at hG
    have hBr := ref08_Broken.a (madeC n l) r1 (by omega) hS (by omega)
    rw [broken_v (by rw [hrl]; exact hR) hrN, places_none LM.holds] at hBr
    have hI2 := ref08_Ints.a r1 r1 (by omega)
    simp +contextual (disch := omega) [Nat.add_assoc, Int.add_assoc, if_pos, if_neg, -Int.not_lt, -Int.not_le, -Nat.not_lt, -Nat.not_le, -List.length_flatMap, law09_SolveFrom.c, ansK (law08_Vars.a n hn), ansK (law08_Made.a n hn l hb hl), ansK (law08_Model.a n hn v hbv hlv), ansK (law08_Model.a n hn u hbu hlu), zeros_noughts, hcl, htk, ansK hSv, ansK hZ, ansK hF, ansK hG, ansK hBr, ansK hBu, ansK hI, ansK hI2, hrl]
    refine for_w (fun i e m x => e 9 = .b true ∧ e 10 = .i .i64 (varsB n : Nat) ∧ e 12 = sV cI (modelB n v) ∧ e 13 = sV cI (modelB n u) ∧ e 21 = sV cI r1 ∧ e 29 = sV cI (placesS (brokenC (modelB n u)) (madeC n l)) ∧ e 31 = .b (geB (modelB n u) (modelB n v) i) ∧ e 32 = .i .i64 i) (varsB n) ?_ ?_ ?_
    · simp +contextual (disch := omega) [Nat.add_assoc, Int.add_assoc, if_pos, if_neg, -Int.not_lt, -Int.not_le, -Nat.not_lt, -Nat.not_le, -List.length_flatMap]
      rfl
    · rintro i e m x hi ⟨g9, g10, g12, g13, g21, g29, g31, g32⟩
      have q1 := LM.ge i
      have q2 := geB_s (modelB n u) (modelB n v) i
      rw [getD_get _ _ (by omega : i < r1.length), getD_get _ _ (by omega : i < (modelB n v).length)] at q1
      rw [getD_get _ _ (by omega : i < (modelB n u).length), getD_get _ _ (by omega : i < (modelB n v).length)] at q2
      cases hg : geB (modelB n u) (modelB n v) i <;> rw [hg] at g31 q2
      · simp +contextual (disch := omega) [Nat.add_assoc, Int.add_assoc, if_pos, if_neg, -Int.not_lt, -Int.not_le, -Nat.not_lt, -Nat.not_le, -List.length_flatMap, law09_SolveFrom.b1, g9, g10, g12, g13, g21, g29, g31, g32, hi, hrl, h2, h2u, q2]
      · simp +contextual (disch := omega) [Nat.add_assoc, Int.add_assoc, if_pos, if_neg, -Int.not_lt, -Int.not_le, -Nat.not_lt, -Nat.not_le, -List.length_flatMap, law09_SolveFrom.b1, g9, g10, g12, g13, g21, g29, g31, g32, hi, hrl, h2, h2u, q2]
    · rintro e m x ⟨g9, g10, g12, g13, g21, g29, g31, g32⟩
      simp +contextual (disch := omega) [Nat.add_assoc, Int.add_assoc, if_pos, if_neg, -Int.not_lt, -Int.not_le, -Nat.not_lt, -Nat.not_le, -List.length_flatMap, law09_SolveFrom.b1, g9, g10, g12, g13, g21, g29, g31, g32]
      refine for_w (fun i e m x => e 9 = .b true ∧ e 10 = .i .i64 (varsB n : Nat) ∧ e 13 = sV cI (modelB n u) ∧ e 21 = sV cI r1 ∧ e 29 = sV cI (placesS (brokenC (modelB n u)) (madeC n l)) ∧ e 31 = .b (geB (modelB n u) (modelB n v) (varsB n)) ∧ e 33 = .i .i64 i) (varsB n) ?_ ?_ ?_
      · simp +contextual (disch := omega) [Nat.add_assoc, Int.add_assoc, if_pos, if_neg, -Int.not_lt, -Int.not_le, -Nat.not_lt, -Nat.not_le, -List.length_flatMap, g9, g10, g12, g13, g21, g29, g31, g32]
      · rintro i e m x hi ⟨g9, g10, g13, g21, g29, g31, g33⟩
        cases hg : geB (modelB n u) (modelB n v) (varsB n) <;> rw [hg] at g31
        · simp +contextual (disch := omega) [Nat.add_assoc, Int.add_assoc, if_pos, if_neg, -Int.not_lt, -Int.not_le, -Nat.not_lt, -Nat.not_le, -List.length_flatMap, law09_SolveFrom.b2, g9, g10, g13, g21, g29, g31, g33, hi, hrl, h2, h2u]
        · by_cases hp : (placesS (brokenC (modelB n u)) (madeC n l)).length = 0
          · have q := LM.least (modelB n u) (by rw [h2, h2u]) (geB_le h2u h2 hg) (places_len0.1 hp) i
            rw [getD_get _ _ (by omega : i < r1.length), getD_get _ _ (by omega : i < (modelB n u).length)] at q
            simp +contextual (disch := omega) [Nat.add_assoc, Int.add_assoc, if_pos, if_neg, -Int.not_lt, -Int.not_le, -Nat.not_lt, -Nat.not_le, -List.length_flatMap, law09_SolveFrom.b2, g9, g10, g13, g21, g29, g31, g33, hi, hrl, h2, h2u, hp]
          · simp +contextual (disch := omega) [Nat.add_assoc, Int.add_assoc, if_pos, if_neg, -Int.not_lt, -Int.not_le, -Nat.not_lt, -Nat.not_le, -List.length_flatMap, law09_SolveFrom.b2, g9, g10, g13, g21, g29, g31, g33, hi, hrl, h2, h2u, hp]
      · rintro e m x ⟨g9, g10, g13, g21, g29, g31, g33⟩
        simp +contextual (disch := omega) [Nat.add_assoc, Int.add_assoc, if_pos, if_neg, -Int.not_lt, -Int.not_le, -Nat.not_lt, -Nat.not_le, -List.length_flatMap, law09_SolveFrom.b2, g9, g10, g13, g21, g29, g31, g33]
  · simp +contextual (disch := omega) [Nat.add_assoc, Int.add_assoc, if_pos, if_neg, -Int.not_lt, -Int.not_le, -Nat.not_lt, -Nat.not_le, -List.length_flatMap, law09_SolveFrom.c, ansK (law08_Vars.a n hn), ansK (law08_Made.a n hn l hb hl), ansK (law08_Model.a n hn v hbv hlv), ansK (law08_Model.a n hn u hbu hlu), zeros_noughts, hcl, htk, ansK hSv, ansK hZ, ansK hF, ansK hI, e, e1]
end Pi
