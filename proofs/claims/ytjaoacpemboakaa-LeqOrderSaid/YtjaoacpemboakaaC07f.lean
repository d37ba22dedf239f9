/- Contracts: levels by cases (layer 7): the laws any, made. -/
import Derived.Test.YtjaoacpemboakaaC07e
import Derived.Test.YtjaoacpemboakaaC06h
set_option linter.unusedSimpArgs false
set_option linter.unusedVariables false
namespace Pi
set_option maxRecDepth 20000 in
theorem law07_awake.a : Ans ctx law07_awake.n [] (.b true) := ans_told (n := 6000) (by kernel_rfl)
theorem law07_ints.a (a b : List Int) (ha : a.length ≤ 1000000) : Ans ctx law07_ints.n [sV cI a, sV cI b] (.b (decide (a = b))) := by
  refine ans law07_ints.f ?_
  by_cases hl : a.length = b.length
  · simp +contextual (disch := omega) [Nat.add_assoc, Int.add_assoc, if_pos, if_neg, -Int.not_lt, -Int.not_le, -Nat.not_lt, -Nat.not_le, -List.length_flatMap, law07_ints.c, hl]
    refine for_w (fun i e m x => e 0 = sV cI a ∧ e 1 = sV cI b ∧ e 5 = .i .i64 i ∧ a.take i = b.take i) a.length ?_ ?_ ?_
    · simp +contextual (disch := omega) [Nat.add_assoc, Int.add_assoc, if_pos, if_neg, -Int.not_lt, -Int.not_le, -Nat.not_lt, -Nat.not_le, -List.length_flatMap, hl]
    · rintro i e m x hi ⟨g1, g2, g3, g4⟩
      have hi' : i < b.length := by omega
      by_cases he : a[i] = b[i]
      · have : a.take (i + 1) = b.take (i + 1) := by rw [List.take_succ_eq_append_getElem hi, List.take_succ_eq_append_getElem hi', g4, he]
        simp +contextual (disch := omega) [Nat.add_assoc, Int.add_assoc, if_pos, if_neg, -Int.not_lt, -Int.not_le, -Nat.not_lt, -Nat.not_le, -List.length_flatMap, law07_ints.b1, g1, g2, g3, hi, hi', he, this]
      · have : a ≠ b := fun h => he (by subst h; rfl)
        simp +contextual (disch := omega) [Nat.add_assoc, Int.add_assoc, if_pos, if_neg, -Int.not_lt, -Int.not_le, -Nat.not_lt, -Nat.not_le, -List.length_flatMap, law07_ints.b1, g1, g2, g3, hi, hi', he, this]
    · rintro e m x ⟨g1, g2, g3, g4⟩
      rw [List.take_length, hl, List.take_length] at g4
      simp +contextual (disch := omega) [Nat.add_assoc, Int.add_assoc, if_pos, if_neg, -Int.not_lt, -Int.not_le, -Nat.not_lt, -Nat.not_le, -List.length_flatMap, law07_ints.b1, g1, g2, g3, g4, hl]
  · have : a ≠ b := fun h => hl (by rw [h])
    simp +contextual (disch := omega) [Nat.add_assoc, Int.add_assoc, if_pos, if_neg, -Int.not_lt, -Int.not_le, -Nat.not_lt, -Nat.not_le, -List.length_flatMap, law07_ints.c, this, hl]
theorem leqV_tu (a b : L) (p : Int) : ∃ c v n, leqV a b p = .tu [.b c, sV cI v, .i .i64 n] ∧ v.length ≤ 5 := by
  unfold leqV
  split
  · rename_i h
    have := RightS_p h.1
    obtain ⟨v, hv, hl, _⟩ := leqR_eq a b p.toNat
    exact ⟨_, v, _, hv, by omega⟩
  · exact ⟨_, [], _, rfl, by simp⟩
theorem equalV_tu (a b : L) (p : Int) : ∃ c n, equalV a b p = .tu [.b c, .i .i64 n] := by
  unfold equalV
  split <;> exact ⟨_, _, rfl⟩
theorem casesV_tu (a : L) (p : Int) : ∃ c n, casesV a p = .tu [sV cF c, .i .i64 n] ∧ c.length ≤ 32 ∧ ∀ f ∈ c, f.offs.length ≤ 1000000 := by
  unfold casesV
  split
  · rename_i h
    have hp := RightS_p h
    refine ⟨_, _, rfl, by rw [casesF_len]; exact pow32 (by omega), fun f hf => ?_⟩
    obtain ⟨k, hk, rfl⟩ := List.getElem_of_mem hf
    rw [casesF_at (by rw [casesF_len] at hk; exact hk)]
    have hn : ((p.toNat : Nat) : Int) = p := by omega
    rw [(flatten_len (l := a) (Z := caseP k p.toNat) (by rw [caseP_len, hn]; exact h)).1, caseP_len]
    omega
  · exact ⟨[], _, rfl, by simp, fun f hf => by simp at hf⟩
set_option maxRecDepth 20000 in
set_option maxHeartbeats 1000000 in
theorem law07_same.a (a b : L) (oka : a.Ok) (okb : b.Ok) (p : Int) : Ans ctx law07_same.n [.ag (cL a), .ag (cL b), .i .i64 p] (.b true) := by
  refine ans law07_same.f ?_
  have h1 := leq_Leq.a a b oka okb p
  have h2 := ref07_Leq.a a b oka okb p
  have h3 := leq_Equal.a a b oka okb p
  have h4 := ref07_Equal.a a b oka okb p
  have h5 := leq_Cases.a a oka p
  have h6 := ref07_Cases.a a oka p
  obtain ⟨c1, v1, n1, e1, l1⟩ := leqV_tu a b p
  obtain ⟨c2, n2, e2⟩ := equalV_tu a b p
  obtain ⟨c3, n3, e3, l3, q3⟩ := casesV_tu a p
  rw [e1] at h1 h2
  rw [e2] at h3 h4
  rw [e3] at h5 h6
  have hI := law07_ints.a v1 v1 (by omega)
  rw [decide_eq_true rfl] at hI
  simp +contextual (disch := omega) [Nat.add_assoc, Int.add_assoc, if_pos, if_neg, -Int.not_lt, -Int.not_le, -Nat.not_lt, -Nat.not_le, -List.length_flatMap, law07_same.c, ansK h1, ansK h2, ansK h3, ansK h4, ansK h5, ansK h6, ansK hI]
  refine for_w (fun i e m x => e 17 = sV cF c3 ∧ e 19 = sV cF c3 ∧ e 21 = .i .i64 i) c3.length ?_ ?_ ?_
  · simp +contextual (disch := omega) [Nat.add_assoc, Int.add_assoc, if_pos, if_neg, -Int.not_lt, -Int.not_le, -Nat.not_lt, -Nat.not_le, -List.length_flatMap]
  · rintro i e m x hi ⟨g1, g2, g3⟩
    have hS := ref06_Same.a c3[i] c3[i] (q3 _ (List.getElem_mem hi))
    rw [decide_eq_true rfl] at hS
    simp +contextual (disch := omega) [Nat.add_assoc, Int.add_assoc, if_pos, if_neg, -Int.not_lt, -Int.not_le, -Nat.not_lt, -Nat.not_le, -List.length_flatMap, law07_same.b1, g1, g2, g3, hi, ansK hS]
  · rintro e m x ⟨g1, g2, g3⟩
    simp +contextual (disch := omega) [Nat.add_assoc, Int.add_assoc, if_pos, if_neg, -Int.not_lt, -Int.not_le, -Nat.not_lt, -Nat.not_le, -List.length_flatMap, law07_same.b1, g1, g2, g3]
set_option maxRecDepth 20000 in
set_option maxHeartbeats 1000000 in
theorem law07_LeqAny.a (a b : L) (oka : a.Ok) (okb : b.Ok) (p : Int) : Ans ctx law07_LeqAny.n [.ag (cL a), .ag (cL b), .i .i64 p] (.b true) := by
  refine ans law07_LeqAny.f ?_
  have hA := ref02_Nodes.a a oka 301 (by omega) (by omega)
  have hB := ref02_Nodes.a b okb 301 (by omega) (by omega)
  have hS := law07_same.a a b oka okb p
  by_cases h1 : 300 < nodesS a 301
  · simp +contextual (disch := omega) [Nat.add_assoc, Int.add_assoc, if_pos, if_neg, -Int.not_lt, -Int.not_le, -Nat.not_lt, -Nat.not_le, -List.length_flatMap, law07_LeqAny.c, ansK law07_awake.a, ansK hA, ansK hB, ansK hS, h1]
  · by_cases h2 : 300 < nodesS b 301
    · simp +contextual (disch := omega) [Nat.add_assoc, Int.add_assoc, if_pos, if_neg, -Int.not_lt, -Int.not_le, -Nat.not_lt, -Nat.not_le, -List.length_flatMap, law07_LeqAny.c, ansK law07_awake.a, ansK hA, ansK hB, ansK hS, h1, h2]
    · simp +contextual (disch := omega) [Nat.add_assoc, Int.add_assoc, if_pos, if_neg, -Int.not_lt, -Int.not_le, -Nat.not_lt, -Nat.not_le, -List.length_flatMap, law07_LeqAny.c, ansK law07_awake.a, ansK hA, ansK hB, ansK hS, h1, h2]
set_option maxRecDepth 20000 in
set_option maxHeartbeats 1000000 in
theorem law07_LeqMade.a (l k : List Nat) (hl : Byt l) (hk : Byt k) (ll : l.length ≤ 9223372036854775807) (lk : k.length ≤ 9223372036854775807) (p : Nat) (hp : p < 256) : Ans ctx law07_LeqMade.n [sV cU l, sV cU k, .i .u8 p] (.b true) := by
  refine ans law07_LeqMade.f ?_
  have hA : Ans ctx law02_Made.n [sV cU l, .i .i64 (p % 6 : Nat), .i .i64 0] (.ag (cL (madeS l (p % 6) 0))) := law02_Made.a l hl (p % 6) 0 (by omega) (by omega)
  have hB : Ans ctx law02_Made.n [sV cU k, .i .i64 (p % 6 : Nat), .i .i64 0] (.ag (cL (madeS k (p % 6) 0))) := law02_Made.a k hk (p % 6) 0 (by omega) (by omega)
  have oA := madeS_ok l (p % 6) 0 (by omega) (by omega)
  have oB := madeS_ok k (p % 6) 0 (by omega) (by omega)
  have s1 := law07_same.a _ _ oA oB (p % 6 : Nat)
  have s2 := law07_same.a _ _ oB oA (p % 6 : Nat)
  have s3 := law07_same.a _ _ oA oA (p % 6 : Nat)
  have s4 := law07_same.a _ _ oA oB 5
  generalize madeS l (p % 6) 0 = A at *
  generalize madeS k (p % 6) 0 = B at *
  have hm : ((p : Int)).tmod 6 = ((p % 6 : Nat) : Int) := by rw [Int.tmod_eq_emod_of_nonneg (by omega)]; omega
  have hq : p % 6 < 6 := by omega
  generalize p % 6 = q at *
  simp +contextual (disch := omega) [Nat.add_assoc, Int.add_assoc, if_pos, if_neg, -Int.not_lt, -Int.not_le, -Nat.not_lt, -Nat.not_le, -List.length_flatMap, law07_LeqMade.c, hm, ansK hA, ansK hB, ansK law07_awake.a, ansK s1, ansK s2, ansK s3, ansK s4]
end Pi
