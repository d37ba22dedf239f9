/- Contracts: levels by cases (layer 7): Leq. -/
import Derived.Test.YtjaoacpemboakaaC07c
set_option linter.unusedSimpArgs false
set_option linter.unusedVariables false
namespace Pi
def badAt : List F → List F → Nat → Option Nat
  | a :: l, b :: r, i => if leqF a b = true then badAt l r (i + 1) else some i
  | _, _, _ => none
theorem badAt_at {a b : List F} {i : Nat} (h1 : i < a.length) (h2 : i < b.length) : badAt (a.drop i) (b.drop i) i = if leqF a[i] b[i] = true then badAt (a.drop (i + 1)) (b.drop (i + 1)) (i + 1) else some i := by
  rw [List.drop_eq_getElem_cons h1, List.drop_eq_getElem_cons h2, badAt]
theorem badAt_end {a b : List F} {i j : Nat} (h1 : a.length ≤ i) : badAt (a.drop i) (b.drop i) j = none := by
  rw [List.drop_of_length_le h1]; simp [badAt]
def leqAt (a b : L) (n k : Nat) : List Int := againstS (flattenF a (caseP k n)) (flattenF b (caseP k n)) (caseP k n)
def leqR (a b : L) (n : Nat) : V := match badAt (casesF a n) (casesF b n) 0 with
  | some k => .tu [.b false, sV cI (leqAt a b n k), .i .i64 0]
  | none => .tu [.b true, sV cI [], .i .i64 0]
def leqV (a b : L) (p : Int) : V := if RightS a p 0 = true ∧ RightS b p 0 = true then leqR a b p.toNat else .tu [.b false, sV cI [], .i .i64 1]
theorem casesF_at {l : L} {n k : Nat} (h : k < 2 ^ n) (h2 : k < (casesF l n).length) : (casesF l n)[k] = flattenF l (caseP k n) := by simp [casesF]
theorem badAt_step {a b : L} {n k : Nat} (h : k < 2 ^ n) : badAt ((casesF a n).drop k) ((casesF b n).drop k) k = if leqF (flattenF a (caseP k n)) (flattenF b (caseP k n)) = true then badAt ((casesF a n).drop (k + 1)) ((casesF b n).drop (k + 1)) (k + 1) else some k := by
  have h1 := casesF_len a n
  have h2 := casesF_len b n
  rw [badAt_at (by omega) (by omega), casesF_at h, casesF_at h]
theorem flatten_len {l : L} {Z : List Bool} (hr : RightS l Z.length 0 = true) : (flattenF l Z).offs.length = Z.length ∧ rightF (flattenF l Z) = true := by
  obtain ⟨hp, hr'⟩ := RightS_ok (q := 0) hr
  have hbd := ofS_bd _ Z 12 hr'
  refine ⟨?_, flatten_right (by omega) (by omega) hr'⟩
  rw [flatten_low _ Z hbd]
  exact hbd.1
theorem fz_bare {m : Sto} {Z : V} {z : List Bool} {lo x : Nat} (h : Zm m Z z lo x) {m' : Sto} (hm : ∀ j, lo ≤ j → j < x → bare (m' j) = bare (m j)) : frzW (der m' 24) Z = some (sV cB z, refOf Z) := by
  rcases h with ⟨rfl, rfl⟩ | ⟨b, rfl, h1, h2, h3⟩
  · rw [frzW_ns]; rfl
  · have := hm b h2 h3
    rw [h1] at this
    have h4 : ∃ ro, m' b = some (.cells (z.flatMap cB) ro) := by
      cases hb : m' b with
      | none => rw [hb] at this; simp [bare] at this
      | some o =>
        rw [hb] at this
        cases o <;> simp [bare] at this
        exact ⟨_, by rw [this]⟩
    obtain ⟨ro, h5⟩ := h4
    have h6 : m b = some (.cells (z.flatMap cB) false) := h1
    rw [frzW_ms, der_s, h5, derO_cells, (Rm.full (f := cB) (k := 1) z).fz]
    have hl := flatB_len z
    simp [sV, refOf, hl]
    rw [← hl, List.take_length]
set_option maxHeartbeats 1000000 in
theorem leq_Leq.a (a b : L) (oka : a.Ok) (okb : b.Ok) (p : Int) : Ans ctx leq_Leq.n [.ag (cL a), .ag (cL b), .i .i64 p] (leqV a b p) := by
  refine ans leq_Leq.f ?_
  have hA := level_Right.a a oka p 0
  have hB := level_Right.a b okb p 0
  unfold leqV
  cases h1 : RightS a p 0 with
  | false =>
    rw [h1] at hA
    simp +contextual (disch := omega) [Nat.add_assoc, Int.add_assoc, if_pos, if_neg, -Int.not_lt, -Int.not_le, -Nat.not_lt, -Nat.not_le, -List.length_flatMap, leq_Leq.c, ansK hA]
  | true =>
    rw [h1] at hA
    cases h2 : RightS b p 0 with
    | false =>
      rw [h2] at hB
      simp +contextual (disch := omega) [Nat.add_assoc, Int.add_assoc, if_pos, if_neg, -Int.not_lt, -Int.not_le, -Nat.not_lt, -Nat.not_le, -List.length_flatMap, leq_Leq.c, ansK hA, ansK hB]
    | true =>
      rw [h2] at hB
      have hp := RightS_p h1
      obtain ⟨n, rfl⟩ : ∃ n : Nat, p = n := ⟨p.toNat, by omega⟩
      have hn5 : n ≤ 5 := by omega
      simp +contextual (disch := omega) [Nat.add_assoc, Int.add_assoc, if_pos, if_neg, -Int.not_lt, -Int.not_le, -Nat.not_lt, -Nat.not_le, -List.length_flatMap, leq_Leq.c, ansK hA, ansK hB]
      rw [CallX_op (by rfl)]
      refine openg_w rfl rfl (.inl rfl) ?_
      have hfa : ctx.frz leq_All.n = false := rfl
      rw [hfa]
      simp +contextual (disch := omega) [Nat.add_assoc, Int.add_assoc, if_pos, if_neg, -Int.not_lt, -Int.not_le, -Nat.not_lt, -Nat.not_le, -List.length_flatMap, leq_All.c]
      refine gen_e (fun E => E 3 = .p 0 0 ∧ E 4 = .p 1 0 ∧ E 6 = .p 2 0 ∧ E 7 = .p 3 0 ∧ E 8 = .p 4 0 ∧ E 25 = .fn (.func leq_All_1.n) [] [.p 14 0]) (by simp +contextual (disch := omega) [Nat.add_assoc, Int.add_assoc, if_pos, if_neg, -Int.not_lt, -Int.not_le, -Nat.not_lt, -Nat.not_le, -List.length_flatMap]) ?_
      rintro E ⟨E3, E4, E6, E7, E8, E25⟩
      refine rf_g fun A B hA hB => ?_
      simp +contextual (disch := omega) [Nat.add_assoc, Int.add_assoc, if_pos, if_neg, -Int.not_lt, -Int.not_le, -Nat.not_lt, -Nat.not_le, -List.length_flatMap, E25]
      refine leq_All_1.w hn5 (fun k m x => m 14 = some (.cells [.i .i64 n] false) ∧ m 18 = some .dfr ∧ m 19 = some (.loop ⟨E, [26], A, B, .ready, none⟩) ∧ m 0 = some (.cells (cL a) false) ∧ m 1 = some (.cells (cL b) false) ∧
          m 2 = some (.cells [.b false] false) ∧ m 3 = some (.cells [.ns] false) ∧ m 4 = some (.cells [.i .i64 0] false) ∧ badAt (casesF a n) (casesF b n) 0 = badAt ((casesF a n).drop k) ((casesF b n).drop k) k)
        (fun m x => m 18 = some .dfr ∧ m 19 = some (.loop ⟨E, [26], A, B, .done, some .ret⟩) ∧ m 2 = some (.cells [.b false] false) ∧ m 4 = some (.cells [.i .i64 0] false) ∧ ∃ k, badAt (casesF a n) (casesF b n) 0 = some k ∧ m 3 = some (.cells [sV cI (leqAt a b n k)] false)) ?_ ?_ ?_ ?_ ?_ ?_ ?_
      · rintro k m x ⟨q, _⟩
        exact q
      · rintro k m x m' x' hx ⟨q14, q18, q19, q0, q1, q2, q3, q4, qb⟩ hxx h
        exact ⟨(h _ (by omega)).trans q14, (h _ (by omega)).trans q18, (h _ (by omega)).trans q19, (h _ (by omega)).trans q0, (h _ (by omega)).trans q1, (h _ (by omega)).trans q2, (h _ (by omega)).trans q3, (h _ (by omega)).trans q4, qb⟩
      · simp +contextual (disch := omega) [Nat.add_assoc, Int.add_assoc, if_pos, if_neg, -Int.not_lt, -Int.not_le, -Nat.not_lt, -Nat.not_le, -List.length_flatMap]
      · intro m x x' h _
        exact h
      · rintro k hk m y x Z K' hy hyx ⟨q14, q18, q19, q0, q1, q2, q3, q4, qb⟩ hZ ht hf'
        have hFa := flat_Flatten.a a oka (caseP k n) (by rw [caseP_len]; omega)
        have hFb := flat_Flatten.a b okb (caseP k n) (by rw [caseP_len]; omega)
        rw [flatten_ok (caseP_len k n) h1] at hFa
        rw [flatten_ok (caseP_len k n) h2] at hFb
        have fa := flatten_len (l := a) (Z := caseP k n) (by rw [caseP_len]; exact h1)
        have fb := flatten_len (l := b) (Z := caseP k n) (by rw [caseP_len]; exact h2)
        have hag := leq_against.a _ _ _ fa.2 fb.2 fa.1 fb.1
        have hLe := flat_Leq.a (flattenF a (caseP k n)) (flattenF b (caseP k n)) (by rw [fa.1, caseP_len]; omega) (by rw [fb.1, caseP_len]; omega)
        have hla : leqAt a b n k = againstS (flattenF a (caseP k n)) (flattenF b (caseP k n)) (caseP k n) := rfl
        rw [← hla] at hag
        rw [badAt_step hk] at qb
        have hst := hZ.bf.stor
        have hce := hZ.bf.cells
        have hzr : ∀ j, j ∈ refOf Z → y ≤ j ∧ j < x := fun j hj => by
          rcases hZ with ⟨rfl, _⟩ | ⟨b, rfl, _, h2, h3⟩
          · simp [refOf] at hj
          · simp [refOf] at hj; omega
        have hni : ∀ j, j < y → j ∉ refOf Z := fun j hj h => by have := hzr j h; omega
        have hni2 : ∀ j, x ≤ j → j ∉ refOf Z := fun j hj h => by have := hzr j h; omega
        have hfz := fun m' h => fz_bare hZ (m' := m') h
        clear hla
        generalize flattenF a (caseP k n) = f at *
        generalize flattenF b (caseP k n) = g at *
        refine yield_w q19 rfl rfl ?_
        refine w_as hA ?_
        simp +contextual (disch := omega) [Nat.add_assoc, Int.add_assoc, if_pos, if_neg, -Int.not_lt, -Int.not_le, -Nat.not_lt, -Nat.not_le, -List.length_flatMap, leq_Leq.a1, q19, hst, hce]
        refine w_as hB ?_
        generalize hM1 : Sto.set m 19 _ = M1
        have v0 : M1 0 = some (.cells (cL a) false) := by rw [← hM1]; simp +contextual (disch := omega) [Nat.add_assoc, Int.add_assoc, if_pos, if_neg, -Int.not_lt, -Int.not_le, -Nat.not_lt, -Nat.not_le, -List.length_flatMap, q0]
        have v1 : M1 1 = some (.cells (cL b) false) := by rw [← hM1]; simp +contextual (disch := omega) [Nat.add_assoc, Int.add_assoc, if_pos, if_neg, -Int.not_lt, -Int.not_le, -Nat.not_lt, -Nat.not_le, -List.length_flatMap, q1]
        have v2 : M1 2 = some (.cells [.b false] false) := by rw [← hM1]; simp +contextual (disch := omega) [Nat.add_assoc, Int.add_assoc, if_pos, if_neg, -Int.not_lt, -Int.not_le, -Nat.not_lt, -Nat.not_le, -List.length_flatMap, q2]
        have v3 : M1 3 = some (.cells [.ns] false) := by rw [← hM1]; simp +contextual (disch := omega) [Nat.add_assoc, Int.add_assoc, if_pos, if_neg, -Int.not_lt, -Int.not_le, -Nat.not_lt, -Nat.not_le, -List.length_flatMap, q3]
        have v4 : M1 4 = some (.cells [.i .i64 0] false) := by rw [← hM1]; simp +contextual (disch := omega) [Nat.add_assoc, Int.add_assoc, if_pos, if_neg, -Int.not_lt, -Int.not_le, -Nat.not_lt, -Nat.not_le, -List.length_flatMap, q4]
        have v14 : M1 14 = some (.cells [.i .i64 n] false) := by rw [← hM1]; simp +contextual (disch := omega) [Nat.add_assoc, Int.add_assoc, if_pos, if_neg, -Int.not_lt, -Int.not_le, -Nat.not_lt, -Nat.not_le, -List.length_flatMap, q14]
        have v18 : M1 18 = some .dfr := by rw [← hM1]; simp +contextual (disch := omega) [Nat.add_assoc, Int.add_assoc, if_pos, if_neg, -Int.not_lt, -Int.not_le, -Nat.not_lt, -Nat.not_le, -List.length_flatMap, q18]
        have v19 : M1 19 = some (.loop ⟨E, [26], A, B, .busy, none⟩) := by rw [← hM1]; simp +contextual (disch := omega) [Nat.add_assoc, Int.add_assoc, if_pos, if_neg, -Int.not_lt, -Int.not_le, -Nat.not_lt, -Nat.not_le, -List.length_flatMap]
        have vb : ∀ j, y ≤ j → j < x → bare (M1 j) = bare (m j) := fun j h1 h2 => by rw [← hM1]; simp +contextual (disch := omega) [Nat.add_assoc, Int.add_assoc, if_pos, if_neg, -Int.not_lt, -Int.not_le, -Nat.not_lt, -Nat.not_le, -List.length_flatMap]
        clear hM1
        obtain ⟨M2, hM2⟩ : ∃ M2, M2 = aft (.tu [.ag (cF f), .i .i64 0]) M1 (refOf Z) := ⟨_, rfl⟩
        have u0 : ∀ j, j < y → M2 j = M1 j := fun j h => by rw [hM2, aft_none _ _ _ _ (hni j h)]
        have ub : ∀ j, y ≤ j → j < x → bare (M2 j) = bare (m j) := fun j h1 h2 => by rw [hM2, bare_aft, vb j h1 h2]
        have w0 := (u0 0 (by omega)).trans v0
        have w1 := (u0 1 (by omega)).trans v1
        simp +contextual (disch := omega) [Nat.add_assoc, Int.add_assoc, if_pos, if_neg, -Int.not_lt, -Int.not_le, -Nat.not_lt, -Nat.not_le, -List.length_flatMap, leq_Leq.b2, v0, v1, E3, E4, hfz M1 vb, ansK hFa, hM2.symm, w0, w1]
        generalize hM3 : Sto.set (Sto.set M2 (x + 6) _) (x + 6) _ = M3
        have tb : ∀ j, y ≤ j → j < x → bare (M3 j) = bare (m j) := fun j h1 h2 => by rw [← ub j h1 h2, ← hM3]; simp +contextual (disch := omega) [Nat.add_assoc, Int.add_assoc, if_pos, if_neg, -Int.not_lt, -Int.not_le, -Nat.not_lt, -Nat.not_le, -List.length_flatMap]
        have t0 : ∀ j, j < y → M3 j = M1 j := fun j h => by rw [← u0 j h, ← hM3]; simp +contextual (disch := omega) [Nat.add_assoc, Int.add_assoc, if_pos, if_neg, -Int.not_lt, -Int.not_le, -Nat.not_lt, -Nat.not_le, -List.length_flatMap]
        have t6 : M3 (x + 6) = some (.cells (cF f) false) := by rw [← hM3]; simp +contextual (disch := omega) [Nat.add_assoc, Int.add_assoc, if_pos, if_neg, -Int.not_lt, -Int.not_le, -Nat.not_lt, -Nat.not_le, -List.length_flatMap]
        clear hM3
        rw [hfz M3 tb]
        obtain ⟨M4, hM4⟩ : ∃ M4, M4 = aft (.tu [.ag (cF g), .i .i64 0]) M3 (refOf Z) := ⟨_, rfl⟩
        have s0 : ∀ j, j < y → M4 j = M1 j := fun j h => by rw [hM4, aft_none _ _ _ _ (hni j h), t0 j h]
        have sb : ∀ j, y ≤ j → j < x → bare (M4 j) = bare (m j) := fun j h1 h2 => by rw [hM4, bare_aft, tb j h1 h2]
        have s6 : M4 (x + 6) = some (.cells (cF f) false) := by rw [hM4, aft_none _ _ _ _ (hni2 _ (by omega)), t6]
        simp +contextual (disch := omega) [Nat.add_assoc, Int.add_assoc, if_pos, if_neg, -Int.not_lt, -Int.not_le, -Nat.not_lt, -Nat.not_le, -List.length_flatMap, ansK hFb, hM4.symm, s6]
        cases hlq : leqF f g with
        | true =>
          rw [hlq] at hLe
          rw [hlq, if_pos rfl] at qb
          simp +contextual (disch := omega) [Nat.add_assoc, Int.add_assoc, if_pos, if_neg, -Int.not_lt, -Int.not_le, -Nat.not_lt, -Nat.not_le, -List.length_flatMap, ansK hLe, s6, s0, v19]
          refine ht _ _ (by omega) ?_
          simp +contextual (disch := omega) [Nat.add_assoc, Int.add_assoc, if_pos, if_neg, -Int.not_lt, -Int.not_le, -Nat.not_lt, -Nat.not_le, -List.length_flatMap, s0, v14, v18, v0, v1, v2, v3, v4, qb]
        | false =>
          rw [hlq] at hLe
          rw [hlq, if_neg (by simp)] at qb
          simp +contextual (disch := omega) [Nat.add_assoc, Int.add_assoc, if_pos, if_neg, -Int.not_lt, -Int.not_le, -Nat.not_lt, -Nat.not_le, -List.length_flatMap, ansK hLe, s6]
          generalize hM5 : Sto.set (Sto.set M4 (x + 14) _) (x + 14) _ = M5
          have rb : ∀ j, y ≤ j → j < x → bare (M5 j) = bare (m j) := fun j h1 h2 => by rw [← sb j h1 h2, ← hM5]; simp +contextual (disch := omega) [Nat.add_assoc, Int.add_assoc, if_pos, if_neg, -Int.not_lt, -Int.not_le, -Nat.not_lt, -Nat.not_le, -List.length_flatMap]
          have r0 : ∀ j, j < y → M5 j = M1 j := fun j h => by rw [← s0 j h, ← hM5]; simp +contextual (disch := omega) [Nat.add_assoc, Int.add_assoc, if_pos, if_neg, -Int.not_lt, -Int.not_le, -Nat.not_lt, -Nat.not_le, -List.length_flatMap]
          clear hM5
          rw [hfz M5 rb]
          obtain ⟨R, hR⟩ : ∃ R, R = sV cI (leqAt a b n k) := ⟨_, rfl⟩
          rw [← hR] at hag
          obtain ⟨M6, hM6⟩ : ∃ M6, M6 = aft R M5 (refOf Z) := ⟨_, rfl⟩
          have p0 : ∀ j, j < y → M6 j = M1 j := fun j h => by rw [hM6, aft_none _ _ _ _ (hni j h), r0 j h]
          have hsR : R.stor = true := by rw [hR]; rfl
          have hcR : R.cells = [R] := by rw [hR]; rfl
          simp +contextual (disch := omega) [Nat.add_assoc, Int.add_assoc, if_pos, if_neg, -Int.not_lt, -Int.not_le, -Nat.not_lt, -Nat.not_le, -List.length_flatMap, ansK hag, hM6.symm, E6, E7, E8, p0, v2, v3, v4, v19, hsR, hcR]
          refine hf' _ _ (by omega) ?_
          simp +contextual (disch := omega) [Nat.add_assoc, Int.add_assoc, if_pos, if_neg, -Int.not_lt, -Int.not_le, -Nat.not_lt, -Nat.not_le, -List.length_flatMap, p0, v18, qb, hR]
      · rintro m' x' hx ⟨q14, q18, q19, q0, q1, q2, q3, q4, qb⟩
        have hN : badAt (casesF a n) (casesF b n) 0 = none := by rw [qb]; exact badAt_end (by rw [casesF_len]; exact Nat.le_refl _)
        unfold leqR
        rw [hN]
        simp +contextual (disch := omega) [Nat.add_assoc, Int.add_assoc, if_pos, if_neg, -Int.not_lt, -Int.not_le, -Nat.not_lt, -Nat.not_le, -List.length_flatMap, q18, q19, q2, q3, q4, E6, E7, E8]
      · rintro m' x' hx ⟨q18, q19, q2, q4, k, hk, q3⟩
        unfold leqR
        rw [hk]
        simp +contextual (disch := omega) [Nat.add_assoc, Int.add_assoc, if_pos, if_neg, -Int.not_lt, -Int.not_le, -Nat.not_lt, -Nat.not_le, -List.length_flatMap, q18, q19, q2, q3, q4, E6, E7, E8]
end Pi
