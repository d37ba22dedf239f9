/- Contracts: stores (layer 11): New, Right, Same. -/
import Derived.Test.YtfdkpnckflmcaaaC10d
import Derived.Test.YtfdkpnckflmcaaaEncS
set_option linter.unusedSimpArgs false
set_option linter.unusedVariables false
namespace Pi
def newV (vars : Int) : V := if vars < 1 ∨ 16 < vars then .tu [.ag (cS ⟨0, [], []⟩), .i .i64 1] else .tu [.ag (cS ⟨vars, [], noughts vars.toNat⟩), .i .i64 0]
theorem store_New.a (vars : Int) : Ans ctx store_New.n [.i .i64 vars] (newV vars) := by
  refine ans store_New.f ?_
  unfold newV
  by_cases h : vars < 1 ∨ 16 < vars
  · rw [if_pos h]
    by_cases h1 : vars < 1
    · simp +contextual (disch := omega) [Nat.add_assoc, Int.add_assoc, if_pos, if_neg, -Int.not_lt, -Int.not_le, -Nat.not_lt, -Nat.not_le, -List.length_flatMap, store_New.c, h1, cS]
    · simp +contextual (disch := omega) [Nat.add_assoc, Int.add_assoc, if_pos, if_neg, -Int.not_lt, -Int.not_le, -Nat.not_lt, -Nat.not_le, -List.length_flatMap, store_New.c, h1, cS]
  · rw [if_neg h]
    obtain ⟨n, rfl⟩ : ∃ n : Nat, vars = n := ⟨vars.toNat, by omega⟩
    have hcl : ((noughts n).flatMap cI).length = n := by rw [flatI_len, noughts_len]
    have htk := flatI_all (noughts_len n).symm
    simp +contextual (disch := omega) [Nat.add_assoc, Int.add_assoc, if_pos, if_neg, -Int.not_lt, -Int.not_le, -Nat.not_lt, -Nat.not_le, -List.length_flatMap, store_New.c, zeros_noughts, hcl, htk, cS]
    exact (noughts_len n).symm
def rightS (s : St) : Bool := rightC s.vars s.cl && (solveC s.vars.toNat s.cl).2.1 && decide ((solveC s.vars.toNat s.cl).1 = s.md)
theorem solveC_len (vars : Int) (l : List C) (h : rightC vars l = true) : (solveC vars.toNat l).1.length ≤ 16 := by
  obtain ⟨r1, r2, r3, r4⟩ := right_ok h
  have r4' : ∀ c ∈ l, okC vars.toNat c = true := fun c hc => okC_mono (by omega) (r4 c hc)
  rcases solve_spec (n := vars.toNat) (l := l) (by omega) r4' with ⟨_, h2, _⟩ | ⟨_, h2, _⟩
  · rw [h2.len, noughts_len]; omega
  · rw [h2]; simp
/-- No list is so long that its length is no number. -/
def St.Sz (s : St) : Prop := s.cl.length ≤ 9223372036854775807 ∧ ∀ c ∈ s.cl, c.frm.length ≤ 9223372036854775807
theorem ref11_Right.a (s : St) (hs : s.Sz) : Ans ctx ref11_Right.n [.ag (cS s)] (.b (rightS s)) := by
  refine ans ref11_Right.f ?_
  have h := ref09_Solve.a s.vars s.cl hs.1 hs.2
  unfold rightS
  unfold solveV at h
  cases hr : rightC s.vars s.cl with
  | false =>
    rw [hr] at h
    simp +contextual (disch := omega) [Nat.add_assoc, Int.add_assoc, if_pos, if_neg, -Int.not_lt, -Int.not_le, -Nat.not_lt, -Nat.not_le, -List.length_flatMap, ref11_Right.c, ansK h]
  | true =>
    rw [hr] at h
    have hl := solveC_len s.vars s.cl hr
    simp +contextual (disch := omega) [Nat.add_assoc, Int.add_assoc, if_pos, if_neg, -Int.not_lt, -Int.not_le, -Nat.not_lt, -Nat.not_le, -List.length_flatMap, ref11_Right.c, ansK h, ansK (ref08_Ints.a (solveC s.vars.toNat s.cl).1 s.md (by omega))]
theorem eqA (a b : A) : eqQ (.many [.i, .i]) (.ag (cA a)) (.ag (cA b)) = some (decide (a = b)) := by
  obtain ⟨v, o⟩ := a
  obtain ⟨v', o'⟩ := b
  simp only [eqQ, cA, eqL, eqK, Option.bind_some, A.mk.injEq]
  by_cases h1 : v = v' <;> by_cases h2 : o = o' <;> simp [h1, h2]
theorem slices_Equal_int.a (a b : List Int) (ha : a.length ≤ 1000000) : Ans ctx slices_Equal_int.n [sV cI a, sV cI b] (.b (decide (a = b))) := by
  refine ans slices_Equal_int.f ?_
  by_cases hl : a.length = b.length
  · simp +contextual (disch := omega) [Nat.add_assoc, Int.add_assoc, if_pos, if_neg, -Int.not_lt, -Int.not_le, -Nat.not_lt, -Nat.not_le, -List.length_flatMap, slices_Equal_int.c, hl]
    refine for_w (fun i e m x => e 0 = sV cI a ∧ e 1 = sV cI b ∧ e 12 = .i .i64 b.length ∧ e 13 = .i .i64 i ∧ a.take i = b.take i) a.length ?_ ?_ ?_
    · simp +contextual (disch := omega) [Nat.add_assoc, Int.add_assoc, if_pos, if_neg, -Int.not_lt, -Int.not_le, -Nat.not_lt, -Nat.not_le, -List.length_flatMap, hl]
    · rintro i e m x hi ⟨g1, g2, g12, g3, g4⟩
      have hi' : i < b.length := by omega
      by_cases he : a[i] = b[i]
      · have : a.take (i + 1) = b.take (i + 1) := by rw [List.take_succ_eq_append_getElem hi, List.take_succ_eq_append_getElem hi', g4, he]
        simp +contextual (disch := omega) [Nat.add_assoc, Int.add_assoc, if_pos, if_neg, -Int.not_lt, -Int.not_le, -Nat.not_lt, -Nat.not_le, -List.length_flatMap, slices_Equal_int.b1, g1, g2, g12, g3, hi, hi', he, this]
      · have : a ≠ b := fun h => he (by subst h; rfl)
        simp +contextual (disch := omega) [Nat.add_assoc, Int.add_assoc, if_pos, if_neg, -Int.not_lt, -Int.not_le, -Nat.not_lt, -Nat.not_le, -List.length_flatMap, slices_Equal_int.b1, g1, g2, g12, g3, hi, hi', he, this]
    · rintro e m x ⟨g1, g2, g12, g3, g4⟩
      rw [List.take_length, hl, List.take_length] at g4
      simp +contextual (disch := omega) [Nat.add_assoc, Int.add_assoc, if_pos, if_neg, -Int.not_lt, -Int.not_le, -Nat.not_lt, -Nat.not_le, -List.length_flatMap, slices_Equal_int.b1, g1, g2, g12, g3, g4, hl]
  · have : a ≠ b := fun h => hl (by rw [h])
    simp +contextual (disch := omega) [Nat.add_assoc, Int.add_assoc, if_pos, if_neg, -Int.not_lt, -Int.not_le, -Nat.not_lt, -Nat.not_le, -List.length_flatMap, slices_Equal_int.c, this, hl]
theorem store_Right.a (s : St) (hs : s.Sz) : Ans ctx store_Right.n [.ag (cS s)] (.b (rightS s)) := by
  refine ans store_Right.f ?_
  have h := solve_Solve.a s.vars s.cl hs.1 hs.2
  unfold rightS
  unfold solveV at h
  cases hr : rightC s.vars s.cl with
  | false =>
    rw [hr] at h
    simp +contextual (disch := omega) [Nat.add_assoc, Int.add_assoc, if_pos, if_neg, -Int.not_lt, -Int.not_le, -Nat.not_lt, -Nat.not_le, -List.length_flatMap, store_Right.c, ansK h]
  | true =>
    rw [hr] at h
    have hl := solveC_len s.vars s.cl hr
    simp +contextual (disch := omega) [Nat.add_assoc, Int.add_assoc, if_pos, if_neg, -Int.not_lt, -Int.not_le, -Nat.not_lt, -Nat.not_le, -List.length_flatMap, store_Right.c, ansK h, ansK (slices_Equal_int.a (solveC s.vars.toNat s.cl).1 s.md (by omega))]
set_option maxHeartbeats 1000000 in
theorem ref11_Same.a (s t : St) (hs : s.md.length ≤ 1000000) (hc : s.cl.length ≤ 1000000) (hf : ∀ c ∈ s.cl, c.frm.length ≤ 9223372036854775807) : Ans ctx ref11_Same.n [.ag (cS s), .ag (cS t)] (.b (decide (s = t))) := by
  refine ans ref11_Same.f ?_
  have hI := ref08_Ints.a s.md t.md hs
  have hne : (s.vars ≠ t.vars ∨ s.md ≠ t.md ∨ s.cl.length ≠ t.cl.length ∨ s.cl ≠ t.cl) → decide (s = t) = false := by
    intro h
    rw [decide_eq_false_iff_not]
    rintro rfl
    rcases h with h | h | h | h <;> exact h rfl
  by_cases h1 : s.vars = t.vars
  · by_cases h2 : s.md = t.md
    · have hI' := ref08_Ints.a t.md t.md (by rw [← h2]; exact hs)
      by_cases h3 : s.cl.length = t.cl.length
      · simp +contextual (disch := omega) [Nat.add_assoc, Int.add_assoc, if_pos, if_neg, -Int.not_lt, -Int.not_le, -Nat.not_lt, -Nat.not_le, -List.length_flatMap, ref11_Same.c, h1, h2, h3, ansK hI']
        refine for_w (fun i e m x => e 2 = .p 0 0 ∧ e 3 = .p 1 0 ∧ e 5 = .i .i64 i ∧ m 0 = some (.cells (cS s) false) ∧ m 1 = some (.cells (cS t) false) ∧ 2 ≤ x ∧ s.cl.take i = t.cl.take i) s.cl.length ?_ ?_ ?_
        · simp +contextual (disch := omega) [Nat.add_assoc, Int.add_assoc, if_pos, if_neg, -Int.not_lt, -Int.not_le, -Nat.not_lt, -Nat.not_le, -List.length_flatMap]
        · rintro i e m x hi ⟨g2, g3, g5, g0, g1, gx, gt⟩
          have hi' : i < t.cl.length := by omega
          have hd : s.cl[i] ≠ t.cl[i] → decide (s = t) = false := fun h => hne (.inr (.inr (.inr fun e => h (by simp only [e]))))
          by_cases q1 : s.cl[i].to = t.cl[i].to
          · by_cases q2 : s.cl[i].frm.length = t.cl[i].frm.length
            · simp +contextual (disch := omega) [Nat.add_assoc, Int.add_assoc, if_pos, if_neg, -Int.not_lt, -Int.not_le, -Nat.not_lt, -Nat.not_le, -List.length_flatMap, ref11_Same.b2, g2, g3, g5, g0, g1, hi, hi', eqA, q1, q2]
              have hfl := hf _ (List.getElem_mem hi)
              obtain ⟨y, hy⟩ : ∃ y, y = x + 15 := ⟨_, rfl⟩
              refine for_w (fun j e m' x' => e 2 = .p 0 0 ∧ e 3 = .p 1 0 ∧ e 5 = .i .i64 i ∧ e 6 = .p y 0 ∧ e 7 = .p (y + 1) 0 ∧ e 8 = .i .i64 j ∧ m' 0 = some (.cells (cS s) false) ∧ m' 1 = some (.cells (cS t) false) ∧ m' y = some (.cells (cC s.cl[i]) false) ∧ m' (y + 1) = some (.cells (cC t.cl[i]) false) ∧ 2 ≤ x' ∧
                s.cl[i].frm.take j = t.cl[i].frm.take j) s.cl[i].frm.length ?_ ?_ ?_
              · subst hy
                simp +contextual (disch := omega) [Nat.add_assoc, Int.add_assoc, if_pos, if_neg, -Int.not_lt, -Int.not_le, -Nat.not_lt, -Nat.not_le, -List.length_flatMap, g2, g3, g5, g0, g1]
              · rintro j e m' x' hj ⟨z2, z3, z5, z6, z7, z8, y0, y1, y2, y3, zx, zt⟩
                have hj' : j < t.cl[i].frm.length := by omega
                by_cases q3 : s.cl[i].frm[j] = t.cl[i].frm[j]
                · have : s.cl[i].frm.take (j + 1) = t.cl[i].frm.take (j + 1) := by rw [List.take_succ_eq_append_getElem hj, List.take_succ_eq_append_getElem hj', zt, q3]
                  simp +contextual (disch := omega) [Nat.add_assoc, Int.add_assoc, if_pos, if_neg, -Int.not_lt, -Int.not_le, -Nat.not_lt, -Nat.not_le, -List.length_flatMap, ref11_Same.b1, z2, z3, z5, z6, z7, z8, y0, y1, y2, y3, hj, hj', eqA, q3, this]
                · have hz := hd (fun e => q3 (by simp only [e]))
                  simp +contextual (disch := omega) [Nat.add_assoc, Int.add_assoc, if_pos, if_neg, -Int.not_lt, -Int.not_le, -Nat.not_lt, -Nat.not_le, -List.length_flatMap, ref11_Same.b1, z2, z3, z5, z6, z7, z8, y0, y1, y2, y3, hj, hj', eqA, q3, hz]
              · rintro e m' x' ⟨z2, z3, z5, z6, z7, z8, y0, y1, y2, y3, zx, zt⟩
                rw [List.take_length, q2, List.take_length] at zt
                have hce : s.cl[i] = t.cl[i] := by
                  cases hu : s.cl[i]
                  cases hv : t.cl[i]
                  rw [hu, hv] at q1 zt
                  simp only at q1 zt
                  rw [q1, zt]
                have : s.cl.take (i + 1) = t.cl.take (i + 1) := by rw [List.take_succ_eq_append_getElem hi, List.take_succ_eq_append_getElem hi', gt, hce]
                simp +contextual (disch := omega) [Nat.add_assoc, Int.add_assoc, if_pos, if_neg, -Int.not_lt, -Int.not_le, -Nat.not_lt, -Nat.not_le, -List.length_flatMap, ref11_Same.b1, z2, z3, z5, z6, z7, z8, y0, y1, y2, y3, this]
            · have hz := hd (fun e => q2 (by rw [e]))
              simp +contextual (disch := omega) [Nat.add_assoc, Int.add_assoc, if_pos, if_neg, -Int.not_lt, -Int.not_le, -Nat.not_lt, -Nat.not_le, -List.length_flatMap, ref11_Same.b2, g2, g3, g5, g0, g1, hi, hi', eqA, q1, q2, hz]
          · have hz := hd (fun e => q1 (by rw [e]))
            simp +contextual (disch := omega) [Nat.add_assoc, Int.add_assoc, if_pos, if_neg, -Int.not_lt, -Int.not_le, -Nat.not_lt, -Nat.not_le, -List.length_flatMap, ref11_Same.b2, g2, g3, g5, g0, g1, hi, hi', eqA, q1, hz]
        · rintro e m x ⟨g2, g3, g5, g0, g1, gx, gt⟩
          simp +contextual (disch := omega) [Nat.add_assoc, Int.add_assoc, if_pos, if_neg, -Int.not_lt, -Int.not_le, -Nat.not_lt, -Nat.not_le, -List.length_flatMap, ref11_Same.b2, g2, g3, g5, g0, g1]
          rw [List.take_length, h3, List.take_length] at gt
          cases s
          cases t
          simp only at h1 h2 gt
          rw [h1, h2, gt]
      · simp +contextual (disch := omega) [Nat.add_assoc, Int.add_assoc, if_pos, if_neg, -Int.not_lt, -Int.not_le, -Nat.not_lt, -Nat.not_le, -List.length_flatMap, ref11_Same.c, h1, h2, h3, ansK hI', hne (.inr (.inr (.inl h3)))]
    · simp +contextual (disch := omega) [Nat.add_assoc, Int.add_assoc, if_pos, if_neg, -Int.not_lt, -Int.not_le, -Nat.not_lt, -Nat.not_le, -List.length_flatMap, ref11_Same.c, h1, h2, ansK hI, hne (.inr (.inl h2))]
  · simp +contextual (disch := omega) [Nat.add_assoc, Int.add_assoc, if_pos, if_neg, -Int.not_lt, -Int.not_le, -Nat.not_lt, -Nat.not_le, -List.length_flatMap, ref11_Same.c, h1, hne (.inl h1)]
end Pi
