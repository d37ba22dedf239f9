/- Contracts: levels by cases (layer 7): Cases. -/
import Derived.Test.YtjaoacpemboakaaC07a
set_option linter.unusedSimpArgs false
set_option linter.unusedVariables false
namespace Pi
def casesF (l : L) (n : Nat) : List F := (List.range (2 ^ n)).map fun k => flattenF l (caseP k n)
theorem casesF_s (l : L) (n k : Nat) (hk : k < 2 ^ n) : (casesF l n).take (k + 1) = (casesF l n).take k ++ [flattenF l (caseP k n)] := by
  have h : k < (casesF l n).length := by simp [casesF, hk]
  rw [List.take_succ_eq_append_getElem h]
  simp [casesF]
theorem casesF_len (l : L) (n : Nat) : (casesF l n).length = 2 ^ n := by simp [casesF]
def casesV (l : L) (p : Int) : V := if RightS l p 0 = true then .tu [sV cF (casesF l p.toNat), .i .i64 0] else .tu [sV cF [], .i .i64 1]
theorem RightS_p {l : L} {p : Int} (h : RightS l p 0 = true) : 0 ≤ p ∧ p ≤ 5 := by
  unfold RightS at h
  split at h
  · cases h
  · omega
theorem flatten_ok {l : L} {z : List Bool} {n : Nat} (hz : z.length = n) (h : RightS l n 0 = true) : flattenV l z = .tu [.ag (cF (flattenF l z)), .i .i64 0] := by
  unfold flattenV
  rw [hz, if_pos h]
set_option maxHeartbeats 1000000 in
theorem leq_Cases.a (l : L) (ok : l.Ok) (p : Int) : Ans ctx leq_Cases.n [.ag (cL l), .i .i64 p] (casesV l p) := by
  refine ans leq_Cases.f ?_
  have hR := level_Right.a l ok p 0
  unfold casesV
  cases h1 : RightS l p 0 with
  | false =>
    rw [h1] at hR
    simp +contextual (disch := omega) [Nat.add_assoc, Int.add_assoc, if_pos, if_neg, -Int.not_lt, -Int.not_le, -Nat.not_lt, -Nat.not_le, -List.length_flatMap, leq_Cases.c, ansK hR]
  | true =>
    rw [h1] at hR
    have hp := RightS_p h1
    obtain ⟨n, rfl⟩ : ∃ n : Nat, p = n := ⟨p.toNat, by omega⟩
    have hn5 : n ≤ 5 := by omega
    simp +contextual (disch := omega) [Nat.add_assoc, Int.add_assoc, if_pos, if_neg, -Int.not_lt, -Int.not_le, -Nat.not_lt, -Nat.not_le, -List.length_flatMap, leq_Cases.c, ansK hR]
    rw [CallX_op (by rfl)]
    refine openg_w rfl rfl (.inl rfl) ?_
    have hfa : ctx.frz leq_All.n = false := rfl
    rw [hfa]
    simp +contextual (disch := omega) [Nat.add_assoc, Int.add_assoc, if_pos, if_neg, -Int.not_lt, -Int.not_le, -Nat.not_lt, -Nat.not_le, -List.length_flatMap, leq_All.c]
    refine gen_e (fun E => E 2 = .p 0 0 ∧ E 4 = .p 1 0 ∧ E 14 = .fn (.func leq_All_1.n) [] [.p 7 0]) (by simp +contextual (disch := omega) [Nat.add_assoc, Int.add_assoc, if_pos, if_neg, -Int.not_lt, -Int.not_le, -Nat.not_lt, -Nat.not_le, -List.length_flatMap]) ?_
    rintro E ⟨E2, E4, E14⟩
    refine rf_g fun A B hA hB => ?_
    simp +contextual (disch := omega) [Nat.add_assoc, Int.add_assoc, if_pos, if_neg, -Int.not_lt, -Int.not_le, -Nat.not_lt, -Nat.not_le, -List.length_flatMap, E14]
    refine leq_All_1.w hn5 (fun k m x => m 7 = some (.cells [.i .i64 n] false) ∧ m 11 = some .dfr ∧ m 12 = some (.loop ⟨E, [15], A, B, .ready, none⟩) ∧ m 0 = some (.cells (cL l) false) ∧ ∃ V, m 1 = some (.cells [V] false) ∧ Bf m V cF 2 ((casesF l n).take k) 13 x) (fun _ _ => False) ?_ ?_ ?_ ?_ ?_ ?_ ?_
    · rintro k m x ⟨q7, _⟩
      exact q7
    · rintro k m x m' x' hx ⟨q7, q11, q12, q0, W, q1, qB⟩ hxx h
      exact ⟨(h _ (by omega)).trans q7, (h _ (by omega)).trans q11, (h _ (by omega)).trans q12, (h _ (by omega)).trans q0, W, (h _ (by omega)).trans q1, qB.up hxx (fun j h1 h2 => h j h2)⟩
    · refine ⟨?_, ?_, ?_, ?_, .ns, ?_, Bf.nil⟩ <;> simp +contextual (disch := omega) [Nat.add_assoc, Int.add_assoc, if_pos, if_neg, -Int.not_lt, -Int.not_le, -Nat.not_lt, -Nat.not_le, -List.length_flatMap]
    · intro m x x' h _
      exact h
    · rintro k hk m y x Z K' hy hyx ⟨q7, q11, q12, q0, W, q1, qB⟩ hZ ht hf'
      have hF := flat_Flatten.a l ok (caseP k n) (by rw [caseP_len]; omega)
      rw [flatten_ok (caseP_len k n) h1] at hF
      have hst := casesF_s l n k hk
      have hzs := hZ.bf.stor
      have hzc := hZ.bf.cells
      have hzr : ∀ j, j ∈ refOf Z → y ≤ j ∧ j < x := fun j hj => by
        rcases hZ with ⟨rfl, _⟩ | ⟨b, rfl, _, h2, h3⟩
        · simp [refOf] at hj
        · simp [refOf] at hj; omega
      generalize flattenF l (caseP k n) = f at *
      refine yield_w q12 rfl rfl ?_
      refine w_as hA ?_
      simp +contextual (disch := omega) [Nat.add_assoc, Int.add_assoc, if_pos, if_neg, -Int.not_lt, -Int.not_le, -Nat.not_lt, -Nat.not_le, -List.length_flatMap, leq_Cases.a1, q12, hzs, hzc]
      refine w_as hB ?_
      generalize hM1 : Sto.set m 12 _ = M1
      have v0 : M1 0 = some (.cells (cL l) false) := by rw [← hM1]; simp +contextual (disch := omega) [Nat.add_assoc, Int.add_assoc, if_pos, if_neg, -Int.not_lt, -Int.not_le, -Nat.not_lt, -Nat.not_le, -List.length_flatMap, q0]
      have v1 : M1 1 = some (.cells [W] false) := by rw [← hM1]; simp +contextual (disch := omega) [Nat.add_assoc, Int.add_assoc, if_pos, if_neg, -Int.not_lt, -Int.not_le, -Nat.not_lt, -Nat.not_le, -List.length_flatMap, q1]
      have v7 : M1 7 = some (.cells [.i .i64 n] false) := by rw [← hM1]; simp +contextual (disch := omega) [Nat.add_assoc, Int.add_assoc, if_pos, if_neg, -Int.not_lt, -Int.not_le, -Nat.not_lt, -Nat.not_le, -List.length_flatMap, q7]
      have v11 : M1 11 = some .dfr := by rw [← hM1]; simp +contextual (disch := omega) [Nat.add_assoc, Int.add_assoc, if_pos, if_neg, -Int.not_lt, -Int.not_le, -Nat.not_lt, -Nat.not_le, -List.length_flatMap, q11]
      have v12 : M1 12 = some (.loop ⟨E, [15], A, B, .busy, none⟩) := by rw [← hM1]; simp +contextual (disch := omega) [Nat.add_assoc, Int.add_assoc, if_pos, if_neg, -Int.not_lt, -Int.not_le, -Nat.not_lt, -Nat.not_le, -List.length_flatMap]
      have vB := qB.up (m' := M1) (Nat.le_refl _) (fun j h1 h2 => by rw [← hM1]; simp +contextual (disch := omega) [Nat.add_assoc, Int.add_assoc, if_pos, if_neg, -Int.not_lt, -Int.not_le, -Nat.not_lt, -Nat.not_le, -List.length_flatMap])
      have hzf := (hZ.bf.up (m' := M1) (Nat.le_refl _) (fun j h1 h2 => by rw [← hM1]; simp +contextual (disch := omega) [Nat.add_assoc, Int.add_assoc, if_pos, if_neg, -Int.not_lt, -Int.not_le, -Nat.not_lt, -Nat.not_le, -List.length_flatMap])).fz24
      have hni : ∀ j, j < y → j ∉ refOf Z := fun j hj h => by have := hzr j h; omega
      obtain ⟨u, hu⟩ : ∃ u : V, u = .tu [.ag (cF f), .i .i64 0] := ⟨_, rfl⟩
      obtain ⟨M2, hM2⟩ : ∃ M2, M2 = aft u M1 (refOf Z) := ⟨_, rfl⟩
      have w0 : M2 0 = some (.cells (cL l) false) := by rw [hM2, aft_none _ _ _ _ (hni 0 (by omega)), v0]
      have w1 : M2 1 = some (.cells [W] false) := by rw [hM2, aft_none _ _ _ _ (hni 1 (by omega)), v1]
      have w7 : M2 7 = some (.cells [.i .i64 n] false) := by rw [hM2, aft_none _ _ _ _ (hni 7 (by omega)), v7]
      have w11 : M2 11 = some .dfr := by rw [hM2, aft_none _ _ _ _ (hni 11 (by omega)), v11]
      have w12 : M2 12 = some (.loop ⟨E, [15], A, B, .busy, none⟩) := by rw [hM2, aft_none _ _ _ _ (hni 12 (by omega)), v12]
      have wB := vB.up (m' := M2) (Nat.le_refl _) (fun j h1 h2 => by rw [hM2, aft_none _ _ _ _ (hni j (by omega))])
      rw [hu] at hM2
      simp +contextual (disch := omega) [Nat.add_assoc, Int.add_assoc, if_pos, if_neg, -Int.not_lt, -Int.not_le, -Nat.not_lt, -Nat.not_le, -List.length_flatMap, leq_Cases.b2, v0, v1, E2, E4, hzf, ansK hF, hM2.symm, w0, w1, w12, -apV_ns]
      have h32 := pow32 hn5
      refine wB.ap [f] (fun j h1 h2 => by simp +contextual (disch := omega) [Nat.add_assoc, Int.add_assoc, if_pos, if_neg, -Int.not_lt, -Int.not_le, -Nat.not_lt, -Nat.not_le, -List.length_flatMap]) (by omega) (by omega) (by simp) rfl (by rw [List.length_take]; simp; omega) ?_
      intro B' ws m3 z0 z1 z2 z3
      rw [← hst] at z1
      have r0 : m3 0 = some (.cells (cL l) false) := by rw [z2 0 (by omega)]; simp +contextual (disch := omega) [Nat.add_assoc, Int.add_assoc, if_pos, if_neg, -Int.not_lt, -Int.not_le, -Nat.not_lt, -Nat.not_le, -List.length_flatMap, w0]
      have r1 : m3 1 = some (.cells [W] false) := by rw [z2 1 (by omega)]; simp +contextual (disch := omega) [Nat.add_assoc, Int.add_assoc, if_pos, if_neg, -Int.not_lt, -Int.not_le, -Nat.not_lt, -Nat.not_le, -List.length_flatMap, w1]
      have r7 : m3 7 = some (.cells [.i .i64 n] false) := by rw [z2 7 (by omega)]; simp +contextual (disch := omega) [Nat.add_assoc, Int.add_assoc, if_pos, if_neg, -Int.not_lt, -Int.not_le, -Nat.not_lt, -Nat.not_le, -List.length_flatMap, w7]
      have r11 : m3 11 = some .dfr := by rw [z2 11 (by omega)]; simp +contextual (disch := omega) [Nat.add_assoc, Int.add_assoc, if_pos, if_neg, -Int.not_lt, -Int.not_le, -Nat.not_lt, -Nat.not_le, -List.length_flatMap, w11]
      have r12 : m3 12 = some (.loop ⟨E, [15], A, B, .busy, none⟩) := by rw [z2 12 (by omega)]; simp +contextual (disch := omega) [Nat.add_assoc, Int.add_assoc, if_pos, if_neg, -Int.not_lt, -Int.not_le, -Nat.not_lt, -Nat.not_le, -List.length_flatMap, w12]
      simp +contextual (disch := omega) [Nat.add_assoc, Int.add_assoc, if_pos, if_neg, -Int.not_lt, -Int.not_le, -Nat.not_lt, -Nat.not_le, -List.length_flatMap, z0, E4, r1, r12, z1.stor, z1.cells]
      refine ht _ _ (by omega) ⟨?_, ?_, ?_, ?_, B', ?_, z1.up (by omega) (fun j h1 h2 => by simp +contextual (disch := omega) [Nat.add_assoc, Int.add_assoc, if_pos, if_neg, -Int.not_lt, -Int.not_le, -Nat.not_lt, -Nat.not_le, -List.length_flatMap])⟩ <;> simp +contextual (disch := omega) [Nat.add_assoc, Int.add_assoc, if_pos, if_neg, -Int.not_lt, -Int.not_le, -Nat.not_lt, -Nat.not_le, -List.length_flatMap, r0, r7, r11]
    · rintro m' x' hx ⟨q7, q11, q12, q0, W, q1, qB⟩
      rw [List.take_of_length_le (by rw [casesF_len]; exact Nat.le_refl _)] at qB
      have hBz : ∀ M' : Sto, (∀ j, 13 ≤ j → j < x' → M' j = m' j) → frzW (der M' 24) W = some (sV cF (casesF l n), refOf W) := fun M' h => (qB.up (Nat.le_refl _) h).fz24
      simp +contextual (disch := omega) [Nat.add_assoc, Int.add_assoc, if_pos, if_neg, -Int.not_lt, -Int.not_le, -Nat.not_lt, -Nat.not_le, -List.length_flatMap, q11, q12, q1, E4, qB.stor, qB.cells]
      rw [hBz _ (fun j h1 h2 => by simp +contextual (disch := omega) [Nat.add_assoc, Int.add_assoc, if_pos, if_neg, -Int.not_lt, -Int.not_le, -Nat.not_lt, -Nat.not_le, -List.length_flatMap])]
      simp +contextual (disch := omega) [Nat.add_assoc, Int.add_assoc, if_pos, if_neg, -Int.not_lt, -Int.not_le, -Nat.not_lt, -Nat.not_le, -List.length_flatMap]
    · intro m' x' hx h
      exact h.elim
theorem ref07_Cases.a (l : L) (ok : l.Ok) (p : Int) : Ans ctx ref07_Cases.n [.ag (cL l), .i .i64 p] (casesV l p) := by
  refine ans ref07_Cases.f ?_
  have hR := ref02_Right.a l ok p 0
  unfold casesV
  cases h1 : RightS l p 0 with
  | false =>
    rw [h1] at hR
    simp +contextual (disch := omega) [Nat.add_assoc, Int.add_assoc, if_pos, if_neg, -Int.not_lt, -Int.not_le, -Nat.not_lt, -Nat.not_le, -List.length_flatMap, ref07_Cases.c, ansK hR]
  | true =>
    rw [h1] at hR
    have hp := RightS_p h1
    obtain ⟨n, rfl⟩ : ∃ n : Nat, p = n := ⟨p.toNat, by omega⟩
    have hn5 : n ≤ 5 := by omega
    have hsh := (shl1 hn5).2
    have h32 := pow32 hn5
    have hln := casesF_len l n
    obtain ⟨N, hN⟩ : ∃ N : Nat, N = 2 ^ n := ⟨_, rfl⟩
    rw [← hN] at hsh h32 hln
    simp +contextual (disch := omega) [Nat.add_assoc, Int.add_assoc, if_pos, if_neg, -Int.not_lt, -Int.not_le, -Nat.not_lt, -Nat.not_le, -List.length_flatMap, ref07_Cases.c, ansK hR]
    refine for_w (fun k e m x => e 1 = .i .i64 n ∧ e 2 = .p 0 0 ∧ m 0 = some (.cells (cL l) false) ∧ e 7 = .i .i64 k ∧ 1 ≤ x ∧ Bf m (e 6) cF 2 ((casesF l n).take k) 1 x) N ?_ ?_ ?_
    · simp +contextual (disch := omega) [Nat.add_assoc, Int.add_assoc, if_pos, if_neg, -Int.not_lt, -Int.not_le, -Nat.not_lt, -Nat.not_le, -List.length_flatMap]
      exact Bf.nil
    · rintro k e m x hk ⟨g1, g2, y0, g7, gx, g6⟩
      generalize hB : e 6 = B at g6
      have hC := ref07_Case.a k n (by omega) hn5
      have hF := ref06_Flatten.a l ok (caseP k n) (by rw [caseP_len]; omega)
      rw [flatten_ok (caseP_len k n) h1] at hF
      have hst := casesF_s l n k (by omega)
      generalize caseP k n = Z at *
      generalize flattenF l Z = f at *
      simp +contextual (disch := omega) [Nat.add_assoc, Int.add_assoc, if_pos, if_neg, -Int.not_lt, -Int.not_le, -Nat.not_lt, -Nat.not_le, -List.length_flatMap, ref07_Cases.b1, g1, g2, y0, g7, hB, hk, hsh, ansK hC, ansK hF, -apV_ns]
      refine g6.ap [f] (fun j h1 h2 => by simp +contextual (disch := omega) [Nat.add_assoc, Int.add_assoc, if_pos, if_neg, -Int.not_lt, -Int.not_le, -Nat.not_lt, -Nat.not_le, -List.length_flatMap]) (by omega) (by omega) (by simp) rfl (by rw [List.length_take]; simp; omega) ?_
      intro B' ws m2 z0 z1 z2 z3
      rw [← hst] at z1
      have r0 : m2 0 = some (.cells (cL l) false) := by rw [z2 0 (by omega)]; simp +contextual (disch := omega) [Nat.add_assoc, Int.add_assoc, if_pos, if_neg, -Int.not_lt, -Int.not_le, -Nat.not_lt, -Nat.not_le, -List.length_flatMap, y0]
      simp +contextual (disch := omega) [Nat.add_assoc, Int.add_assoc, if_pos, if_neg, -Int.not_lt, -Int.not_le, -Nat.not_lt, -Nat.not_le, -List.length_flatMap, z0, g1, g2, g7, r0, z1.stor, z1.cells]
      exact z1.up (by omega) (fun _ _ _ => rfl)
    · rintro e m x ⟨g1, g2, y0, g7, gx, g6⟩
      rw [List.take_of_length_le (by rw [hln]; exact Nat.le_refl _)] at g6
      have hz := g6.fz24
      generalize hB : e 6 = B at g6 hz
      simp +contextual (disch := omega) [Nat.add_assoc, Int.add_assoc, if_pos, if_neg, -Int.not_lt, -Int.not_le, -Nat.not_lt, -Nat.not_le, -List.length_flatMap, ref07_Cases.b1, g1, g2, y0, g7, hB, hsh, hz]
end Pi
