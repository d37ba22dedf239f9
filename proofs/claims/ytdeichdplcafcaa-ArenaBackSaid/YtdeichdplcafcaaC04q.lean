/- Laws of layer 4: Get undoes Put. -/
import Derived.Test.YtdeichdplcafcaaC04p
set_option linter.unusedSimpArgs false
set_option linter.unusedVariables false
namespace Pi
theorem flat_get {α : Type} {f : α → List V} {k : Nat} [h : Cel f k] : ∀ (l : List α) (p : Nat) (hp : p < l.length), ((l.flatMap f).drop (p * k)).take k = f l[p]
  | [], p, hp => by simp at hp
  | a :: r, 0, _ => by
    rw [List.flatMap_cons, Nat.zero_mul, List.drop_zero, List.take_append_of_le_length (by rw [h.len]; exact Nat.le_refl _), List.take_of_length_le (by rw [h.len]; exact Nat.le_refl _)]
    rfl
  | a :: r, p + 1, hp => by
    rw [List.flatMap_cons, (by rw [h.len, Nat.succ_mul, Nat.add_comm] : (p + 1) * k = (f a).length + p * k), List.drop_append, List.drop_of_length_le (by omega), Nat.add_sub_cancel_left, List.nil_append]
    exact flat_get r p (by simpa using hp)
theorem lvl_get (ls : List (List Nat)) {i M : Nat} (hi : i < M) : (((lvlT ls M).flatMap cL).drop (i * 3)).take 3 = cL (lvlS ls i) := by
  rw [flat_get (k := 3) (lvlT ls M) i (by simpa using hi)]
  simp [lvlT]
theorem plc_cell (ls : List (List Nat)) {i M : Nat} (hi : i < M) : ∀ h, ((plcT ls M).flatMap cI)[i]'h = .i .i64 (plcS ls i) := fun h => by
  rw [flatI_get]; simp [plcT]
set_option maxRecDepth 20000 in
set_option maxHeartbeats 4000000 in
theorem law04_ArenaBack.a (ls : List (List Nat)) (hb : ∀ l ∈ ls, Byt l) (hl : ls.length ≤ 9223372036854775807) : Ans ctx law04_ArenaBack.n [sV cY ls] (.b true) := by
  obtain ⟨M, hM⟩ : ∃ M, M = min ls.length 8 := ⟨_, rfl⟩
  refine ans law04_ArenaBack.f ?_
  simp +contextual (disch := omega) [Nat.add_assoc, Int.add_assoc, if_pos, if_neg, -Int.not_lt, -Int.not_le, -Nat.not_lt, -Nat.not_le, -List.length_flatMap, law04_ArenaBack.c, ansK law04_awake.a]
  refine for_w (fun i e m x => e 0 = sV cY ls ∧ e 3 = .b true ∧ e 4 = .p 4 0 ∧ e 7 = .i .i64 i ∧ 5 ≤ x ∧ (m 4 = some (.cells [sV cN (arenaT ls i)] false) ∨ (i = 0 ∧ m 4 = some (.cells [.ns] false))) ∧ Eg m (e 5) cL 3 (lvlT ls i) 5 x ∧ Eg m (e 6) cI 1 (plcT ls i) 5 x ∧ ∀ j, j ∈ refOf (e 5) → j ∉ refOf (e 6)) M ?_ ?_ ?_
  · simp +contextual (disch := omega) [Nat.add_assoc, Int.add_assoc, if_pos, if_neg, -Int.not_lt, -Int.not_le, -Nat.not_lt, -Nat.not_le, -List.length_flatMap]
    refine ⟨Eg.nil, Eg.nil⟩
  · rintro i e m x hi ⟨g0, g3, g4, g7, gx, y0, gB, gC, gd⟩
    have hi1 : i < ls.length := by omega
    have hi2 : i < 8 := by omega
    have hMd : Ans ctx law02_Made.n [sV cU ls[i], .i .i64 5, .i .i64 10] (.ag (cL (lvlS ls i))) := by
      have e0 : lvlS ls i = madeS ls[i] 5 10 := by unfold lvlS; simp [hi1]
      rw [e0]
      exact law02_Made.a ls[i] (hb _ (List.getElem_mem hi1)) 5 10 (by omega) (by omega)
    have ok : (lvlS ls i).Ok := madeS_ok _ _ _ (by omega) (by omega)
    obtain ⟨-, hp, ⟨t, ht⟩, -, -⟩ := arenaT_s ls hi2
    have hlen := (arenaT_ok ls i (by omega)).2
    obtain ⟨hr1, hlen1⟩ := arenaT_ok ls (i + 1) (by omega)
    have hP := arena_Put.a (arenaT ls i) (by omega) (lvlS ls i) ok
    rw [hp] at hP
    have hR := arena_Right.a (arenaT ls (i + 1)) (by omega)
    rw [hr1] at hR
    have hle : (arenaT ls i).length ≤ (arenaT ls (i + 1)).length := by rw [ht, List.length_append]; omega
    have hge : ∀ j (h : j < (arenaT ls i).length) (h' : j < (arenaT ls (i + 1)).length), (arenaT ls (i + 1))[j] = (arenaT ls i)[j] := fun j h h' => by
      have : (arenaT ls i ++ t)[j]'(by rw [List.length_append]; omega) = (arenaT ls i)[j] := List.getElem_append_left h
      simpa [ht] using this
    have a0e : i = 0 → arenaT ls i = [] := fun h => by subst h; rfl
    clear ht hp hr1
    rw [lvlT_s, plcT_s]
    have hst := gB.stor
    have hsc := gC.stor
    have lB := lvlT_len ls i
    have lC := plcT_len ls i
    generalize lvlT ls i = Bl at *
    generalize plcT ls i = Cl at *
    generalize arenaT ls (i + 1) = a1 at *
    generalize arenaT ls i = a0 at *
    generalize lvlS ls i = u at *
    generalize plcS ls i = pl at *
    generalize hB : e 5 = B at *
    generalize hC : e 6 = C at *
    rcases y0 with y0 | ⟨hi0, y0⟩
    · simp +contextual (disch := omega) [Nat.add_assoc, Int.add_assoc, if_pos, if_neg, -Int.not_lt, -Int.not_le, -Nat.not_lt, -Nat.not_le, -List.length_flatMap, law04_ArenaBack.b2, g0, g3, g4, g7, y0, hi1, hi2, ansK hMd, ansK hP, ansK hR, hle]
      obtain ⟨MM, hMM⟩ : ∃ MM, MM = ((((m.set (x + 12) (some (PObj.cells [V.i .i64 0, V.i .i64 0, V.ns] false))).set (x + 12) (some (PObj.cells (cL u) false))).set (x + 20) (some (PObj.cells [V.ns] false))).set (x + 20) (some (PObj.cells [sV cN a1] false))) := ⟨_, rfl⟩
      rw [← hMM]
      have n4 : MM 4 = some (.cells [sV cN a0] false) := by rw [hMM]; simp +contextual (disch := omega) [Nat.add_assoc, Int.add_assoc, if_pos, if_neg, -Int.not_lt, -Int.not_le, -Nat.not_lt, -Nat.not_le, -List.length_flatMap, y0]
      have n12 : MM (x + 12) = some (.cells (cL u) false) := by rw [hMM]; simp +contextual (disch := omega) [Nat.add_assoc, Int.add_assoc, if_pos, if_neg, -Int.not_lt, -Int.not_le, -Nat.not_lt, -Nat.not_le, -List.length_flatMap]
      have n20 : MM (x + 20) = some (.cells [sV cN a1] false) := by rw [hMM]; simp +contextual (disch := omega) [Nat.add_assoc, Int.add_assoc, if_pos, if_neg, -Int.not_lt, -Int.not_le, -Nat.not_lt, -Nat.not_le, -List.length_flatMap]
      have nj : ∀ j, j < x → MM j = m j := fun j hj => by rw [hMM]; simp +contextual (disch := omega) [Nat.add_assoc, Int.add_assoc, if_pos, if_neg, -Int.not_lt, -Int.not_le, -Nat.not_lt, -Nat.not_le, -List.length_flatMap]
      refine for_w (fun j e m' x' => e 0 = sV cY ls ∧ e 3 = .b true ∧ e 4 = .p 4 0 ∧ e 5 = B ∧ e 6 = C ∧ e 7 = .i .i64 i ∧ e 8 = .p (x + 12) 0 ∧ e 9 = .p (x + 20) 0 ∧ e 10 = .i .i64 pl ∧ e 12 = .i .i64 j ∧ x + 21 ≤ x' ∧ m' = MM) a0.length ?_ ?_ ?_
      · simp +contextual (disch := omega) [Nat.add_assoc, Int.add_assoc, if_pos, if_neg, -Int.not_lt, -Int.not_le, -Nat.not_lt, -Nat.not_le, -List.length_flatMap, g0, g3, g4, g7, hB, hC]
      · rintro j e' m' x' hj ⟨q0, q3, q4, q5, q6, q7, q8, q9, q10, q12, qx, rfl⟩
        have hj1 : j < a1.length := by omega
        have hEq := eqN a0[j] a1[j]
        rw [hge j hj hj1, decide_eq_true rfl] at hEq
        have hge' := hge j hj hj1
        simp +contextual (disch := omega) [Nat.add_assoc, Int.add_assoc, if_pos, if_neg, -Int.not_lt, -Int.not_le, -Nat.not_lt, -Nat.not_le, -List.length_flatMap, law04_ArenaBack.b1, q0, q3, q4, q5, q6, q7, q8, q9, q10, q12, n4, n20, hj, hj1, hge', hEq]
        omega
      · rintro e' m' x' ⟨q0, q3, q4, q5, q6, q7, q8, q9, q10, q12, qx, rfl⟩
        simp +contextual (disch := omega) [Nat.add_assoc, Int.add_assoc, if_pos, if_neg, -Int.not_lt, -Int.not_le, -Nat.not_lt, -Nat.not_le, -List.length_flatMap, law04_ArenaBack.b1, q0, q3, q4, q5, q6, q7, q8, q9, q10, q12, n4, n12, n20, hst.1, hst.2.1, hsc.1, hsc.2.1, -apV_ns]
        refine gB.apy [u] (fun j h => by have := gB.ref h; simp +contextual (disch := omega) [Nat.add_assoc, Int.add_assoc, if_pos, if_neg, -Int.not_lt, -Int.not_le, -Nat.not_lt, -Nat.not_le, -List.length_flatMap, nj j (by omega)]) (by omega) (by simp) rfl (by simp) (by simp; omega) ?_
        intro ws m2 v1 v2 v3 v4
        have o4 : m2 4 = some (.cells [sV cN a1] false) := by rw [v3 4 (fun h => by have := gB.ref h; omega) (by omega)]; simp +contextual (disch := omega) [Nat.add_assoc, Int.add_assoc, if_pos, if_neg, -Int.not_lt, -Int.not_le, -Nat.not_lt, -Nat.not_le, -List.length_flatMap]
        have oj : ∀ j, j ∈ refOf C → m2 j = m j := fun j h => by
          have := gC.ref h
          rw [v3 j (fun h' => gd j h' h) (by omega)]
          simp +contextual (disch := omega) [Nat.add_assoc, Int.add_assoc, if_pos, if_neg, -Int.not_lt, -Int.not_le, -Nat.not_lt, -Nat.not_le, -List.length_flatMap, nj j (by omega)]
        simp +contextual (disch := omega) [Nat.add_assoc, Int.add_assoc, if_pos, if_neg, -Int.not_lt, -Int.not_le, -Nat.not_lt, -Nat.not_le, -List.length_flatMap, v1, q10, q6, hsc.1, hsc.2.1, -apV_ns, -apV_ms]
        refine gC.apy [(pl : Int)] (fun j h => by have := gC.ref h; simp +contextual (disch := omega) [Nat.add_assoc, Int.add_assoc, if_pos, if_neg, -Int.not_lt, -Int.not_le, -Nat.not_lt, -Nat.not_le, -List.length_flatMap, oj j h]) (by omega) rfl rfl (by simp) (by simp; omega) ?_
        intro ws3 m3 z1 z2 z3 z4
        have p4 : m3 4 = some (.cells [sV cN a1] false) := by rw [z3 4 (fun h => by have := gC.ref h; omega) (by omega)]; simp +contextual (disch := omega) [Nat.add_assoc, Int.add_assoc, if_pos, if_neg, -Int.not_lt, -Int.not_le, -Nat.not_lt, -Nat.not_le, -List.length_flatMap, o4]
        simp +contextual (disch := omega) [Nat.add_assoc, Int.add_assoc, if_pos, if_neg, -Int.not_lt, -Int.not_le, -Nat.not_lt, -Nat.not_le, -List.length_flatMap, z1, q0, q3, q4, q7, p4]
        refine ⟨.inr ⟨x' + 10, by simp, ?_, by omega, by omega⟩, .inr ⟨x' + 15, by simp, z2, by omega, by omega⟩⟩
        rw [z3 _ (fun h => by have := gC.ref h; omega) (by omega)]
        simp +contextual (disch := omega) [Nat.add_assoc, Int.add_assoc, if_pos, if_neg, -Int.not_lt, -Int.not_le, -Nat.not_lt, -Nat.not_le, -List.length_flatMap, v2]
    · have ae := a0e hi0
      subst ae
      rw [show sV cN [] = V.sl [] 0 from rfl] at hP
      simp +contextual (disch := omega) [Nat.add_assoc, Int.add_assoc, if_pos, if_neg, -Int.not_lt, -Int.not_le, -Nat.not_lt, -Nat.not_le, -List.length_flatMap, law04_ArenaBack.b2, g0, g3, g4, g7, y0, hi1, hi2, ansK hMd, ansK hP, ansK hR, hle]
      obtain ⟨MM, hMM⟩ : ∃ MM, MM = ((((m.set (x + 12) (some (PObj.cells [V.i .i64 0, V.i .i64 0, V.ns] false))).set (x + 12) (some (PObj.cells (cL u) false))).set (x + 20) (some (PObj.cells [V.ns] false))).set (x + 20) (some (PObj.cells [sV cN a1] false))) := ⟨_, rfl⟩
      rw [← hMM]
      have n4 : MM 4 = some (.cells [.ns] false) := by rw [hMM]; simp +contextual (disch := omega) [Nat.add_assoc, Int.add_assoc, if_pos, if_neg, -Int.not_lt, -Int.not_le, -Nat.not_lt, -Nat.not_le, -List.length_flatMap, y0]
      have n12 : MM (x + 12) = some (.cells (cL u) false) := by rw [hMM]; simp +contextual (disch := omega) [Nat.add_assoc, Int.add_assoc, if_pos, if_neg, -Int.not_lt, -Int.not_le, -Nat.not_lt, -Nat.not_le, -List.length_flatMap]
      have n20 : MM (x + 20) = some (.cells [sV cN a1] false) := by rw [hMM]; simp +contextual (disch := omega) [Nat.add_assoc, Int.add_assoc, if_pos, if_neg, -Int.not_lt, -Int.not_le, -Nat.not_lt, -Nat.not_le, -List.length_flatMap]
      have nj : ∀ j, j < x → MM j = m j := fun j hj => by rw [hMM]; simp +contextual (disch := omega) [Nat.add_assoc, Int.add_assoc, if_pos, if_neg, -Int.not_lt, -Int.not_le, -Nat.not_lt, -Nat.not_le, -List.length_flatMap]
      refine for_w (fun j e m' x' => e 0 = sV cY ls ∧ e 3 = .b true ∧ e 4 = .p 4 0 ∧ e 5 = B ∧ e 6 = C ∧ e 7 = .i .i64 i ∧ e 8 = .p (x + 12) 0 ∧ e 9 = .p (x + 20) 0 ∧ e 10 = .i .i64 pl ∧ e 12 = .i .i64 j ∧ x + 21 ≤ x' ∧ m' = MM) 0 ?_ ?_ ?_
      · simp +contextual (disch := omega) [Nat.add_assoc, Int.add_assoc, if_pos, if_neg, -Int.not_lt, -Int.not_le, -Nat.not_lt, -Nat.not_le, -List.length_flatMap, g0, g3, g4, g7, hB, hC]
      · rintro j e' m' x' hj ⟨q0, q3, q4, q5, q6, q7, q8, q9, q10, q12, qx, rfl⟩
        omega
      · rintro e' m' x' ⟨q0, q3, q4, q5, q6, q7, q8, q9, q10, q12, qx, rfl⟩
        simp +contextual (disch := omega) [Nat.add_assoc, Int.add_assoc, if_pos, if_neg, -Int.not_lt, -Int.not_le, -Nat.not_lt, -Nat.not_le, -List.length_flatMap, law04_ArenaBack.b1, q0, q3, q4, q5, q6, q7, q8, q9, q10, q12, n4, n12, n20, hst.1, hst.2.1, hsc.1, hsc.2.1, -apV_ns]
        refine gB.apy [u] (fun j h => by have := gB.ref h; simp +contextual (disch := omega) [Nat.add_assoc, Int.add_assoc, if_pos, if_neg, -Int.not_lt, -Int.not_le, -Nat.not_lt, -Nat.not_le, -List.length_flatMap, nj j (by omega)]) (by omega) (by simp) rfl (by simp) (by simp; omega) ?_
        intro ws m2 v1 v2 v3 v4
        have o4 : m2 4 = some (.cells [sV cN a1] false) := by rw [v3 4 (fun h => by have := gB.ref h; omega) (by omega)]; simp +contextual (disch := omega) [Nat.add_assoc, Int.add_assoc, if_pos, if_neg, -Int.not_lt, -Int.not_le, -Nat.not_lt, -Nat.not_le, -List.length_flatMap]
        have oj : ∀ j, j ∈ refOf C → m2 j = m j := fun j h => by
          have := gC.ref h
          rw [v3 j (fun h' => gd j h' h) (by omega)]
          simp +contextual (disch := omega) [Nat.add_assoc, Int.add_assoc, if_pos, if_neg, -Int.not_lt, -Int.not_le, -Nat.not_lt, -Nat.not_le, -List.length_flatMap, nj j (by omega)]
        simp +contextual (disch := omega) [Nat.add_assoc, Int.add_assoc, if_pos, if_neg, -Int.not_lt, -Int.not_le, -Nat.not_lt, -Nat.not_le, -List.length_flatMap, v1, q10, q6, hsc.1, hsc.2.1, -apV_ns, -apV_ms]
        refine gC.apy [(pl : Int)] (fun j h => by have := gC.ref h; simp +contextual (disch := omega) [Nat.add_assoc, Int.add_assoc, if_pos, if_neg, -Int.not_lt, -Int.not_le, -Nat.not_lt, -Nat.not_le, -List.length_flatMap, oj j h]) (by omega) rfl rfl (by simp) (by simp; omega) ?_
        intro ws3 m3 z1 z2 z3 z4
        have p4 : m3 4 = some (.cells [sV cN a1] false) := by rw [z3 4 (fun h => by have := gC.ref h; omega) (by omega)]; simp +contextual (disch := omega) [Nat.add_assoc, Int.add_assoc, if_pos, if_neg, -Int.not_lt, -Int.not_le, -Nat.not_lt, -Nat.not_le, -List.length_flatMap, o4]
        simp +contextual (disch := omega) [Nat.add_assoc, Int.add_assoc, if_pos, if_neg, -Int.not_lt, -Int.not_le, -Nat.not_lt, -Nat.not_le, -List.length_flatMap, z1, q0, q3, q4, q7, p4]
        refine ⟨.inr ⟨x' + 10, by simp, ?_, by omega, by omega⟩, .inr ⟨x' + 15, by simp, z2, by omega, by omega⟩⟩
        rw [z3 _ (fun h => by have := gC.ref h; omega) (by omega)]
        simp +contextual (disch := omega) [Nat.add_assoc, Int.add_assoc, if_pos, if_neg, -Int.not_lt, -Int.not_le, -Nat.not_lt, -Nat.not_le, -List.length_flatMap, v2]
  · rintro e m x ⟨g0, g3, g4, g7, gx, y0, gB, gC, gd⟩
    have hM8 : M ≤ 8 := by omega
    have lB := lvlT_len ls M
    have lC := plcT_len ls M
    have hst := gB.stor
    have hsc := gC.stor
    generalize hB : e 5 = B at *
    generalize hC : e 6 = C at *
    by_cases h0 : M = 0
    · have e1 : ls.length = 0 := by omega
      rw [h0] at lB g7
      simp +contextual (disch := omega) [Nat.add_assoc, Int.add_assoc, if_pos, if_neg, -Int.not_lt, -Int.not_le, -Nat.not_lt, -Nat.not_le, -List.length_flatMap, law04_ArenaBack.b2, g0, g3, g4, g7, e1]
      refine un_w ?_
      simp +contextual (disch := omega) [Nat.add_assoc, Int.add_assoc, if_pos, if_neg, -Int.not_lt, -Int.not_le, -Nat.not_lt, -Nat.not_le, -List.length_flatMap, law04_ArenaBack.b4, hB, hst.2.2, lB, h0, g3]
    · have y1 : m 4 = some (.cells [sV cN (arenaT ls M)] false) := by
        rcases y0 with y0 | ⟨h, _⟩
        · exact y0
        · exact absurd h h0
      obtain ⟨p, hpB, hp1, hp2, hp3⟩ := gB.at (by intro h; rw [h] at lB; simp at lB; omega)
      obtain ⟨q, hqC, hq1, hq2, hq3⟩ := gC.at (by intro h; rw [h] at lC; simp at lC; omega)
      rw [lB] at hpB
      rw [lC] at hqC
      have hlen := (arenaT_ok ls M hM8).2
      have tail : ∀ (E : Env) (X : Nat), x ≤ X → E 3 = .b true → E 4 = .p 4 0 → E 5 = B → E 6 = C → E 13 = .i .i64 0 → w ctx E m X [] none none (BlkK 4 (SeqK ctx ((PCode.reg [Seg.seq [{ d := some 135, o := POp.mv (Opd.t 3), g := none }, { d := some 2, o := POp.mv (Opd.t 135), g := none }]]).seq PCode.ret) (FinK [RVar.t 2] (V.b true)))) law04_ArenaBack.b4.loop := by
        intro E X hX E3 E4 E5 E6 E13
        refine for_w (fun i e m' x' => e 3 = .b true ∧ e 4 = .p 4 0 ∧ e 5 = B ∧ e 6 = C ∧ e 13 = .i .i64 i ∧ x ≤ x' ∧ ∀ j, j < x → m' j = m j) M ?_ ?_ ?_
        · simp +contextual (disch := omega) [Nat.add_assoc, Int.add_assoc, if_pos, if_neg, -Int.not_lt, -Int.not_le, -Nat.not_lt, -Nat.not_le, -List.length_flatMap, E3, E4, E5, E6, E13]
          exact hX
        · rintro i e m' x' hi ⟨q3, q4, q5, q6, q13, qx, qm⟩
          have hG := arena_Get.a (arenaT ls M) (by omega) (plcS ls i)
          rw [plc_get ls hi hM8] at hG
          have ok : (lvlS ls i).Ok := madeS_ok _ _ _ (by omega) (by omega)
          have hS := ref02_Same.a (lvlS ls i) ok (lvlS ls i) ok
          rw [sameS_refl] at hS
          have k4 : m' 4 = some (.cells [sV cN (arenaT ls M)] false) := by rw [qm 4 (by omega), y1]
          have kp : m' p = some (.cells ((lvlT ls M).flatMap cL) false) := by rw [qm p (by omega), hp1]
          have kq : m' q = some (.cells ((plcT ls M).flatMap cI) false) := by rw [qm q (by omega), hq1]
          have n1 : ((plcT ls M).flatMap cI).length = M := by rw [flatI_len, lC]
          have n2 : ((lvlT ls M).flatMap cL).length = M * 3 := by rw [flat_ln (k := 3), lB]
          have t1 := plc_cell ls hi
          have t2 := lvl_get ls hi
          obtain ⟨P, hP⟩ : ∃ P, P = i * 3 := ⟨_, rfl⟩
          rw [← hP] at t2
          have hP2 : P + 3 ≤ M * 3 := by omega
          simp +contextual (disch := omega) [Nat.add_assoc, Int.add_assoc, if_pos, if_neg, -Int.not_lt, -Int.not_le, -Nat.not_lt, -Nat.not_le, -List.length_flatMap, law04_ArenaBack.b4, q3, q4, q5, q6, q13, hi, hpB, hqC, k4, kp, kq, n1, n2, t1, ansK hG, hP.symm, hP2, t2, ansK hS]
          have tm : ∀ MM : Sto, (∀ j, j < x → MM j = m' j) → MM p = some (.cells ((lvlT ls M).flatMap cL) false) ∧ MM q = some (.cells ((plcT ls M).flatMap cI) false) := fun MM h => ⟨by rw [h p (by omega), kp], by rw [h q (by omega), kq]⟩
          refine for_w (fun k e m2 x2 => e 3 = .b true ∧ e 4 = .p 4 0 ∧ e 5 = .ms p 0 M 3 ∧ e 6 = .ms q 0 M 1 ∧ e 13 = .i .i64 i ∧ e 16 = .i .i64 k ∧ x ≤ x2 ∧ ∀ j, j < x → m2 j = m' j) i ?_ ?_ ?_
          · simp +contextual (disch := omega) [Nat.add_assoc, Int.add_assoc, if_pos, if_neg, -Int.not_lt, -Int.not_le, -Nat.not_lt, -Nat.not_le, -List.length_flatMap, q3, q4, q5, q6, q13, hpB, hqC]
            omega
          · rintro k e m2 x2 hk ⟨r3, r4, r5, r6, r13, r16, rx, rm⟩
            have hkM : k < M := by omega
            obtain ⟨kp2, kq2⟩ := tm m2 rm
            have t3 := plc_cell ls hkM
            have t4 := lvl_get ls hkM
            obtain ⟨Q, hQ⟩ : ∃ Q, Q = k * 3 := ⟨_, rfl⟩
            rw [← hQ] at t4
            have hQ2 : Q + 3 ≤ M * 3 := by omega
            have ok2 : (lvlS ls k).Ok := madeS_ok _ _ _ (by omega) (by omega)
            have hS2 := ref02_Same.a (lvlS ls k) ok2 (lvlS ls i) ok
            have hinj := plc_inj ls hi hkM hM8
            by_cases hs : plcS ls k = plcS ls i
            · rw [hinj.1 hs, sameS_refl] at hS2
              simp +contextual (disch := omega) [Nat.add_assoc, Int.add_assoc, if_pos, if_neg, -Int.not_lt, -Int.not_le, -Nat.not_lt, -Nat.not_le, -List.length_flatMap, law04_ArenaBack.b3, r3, r4, r5, r6, r13, r16, kp2, kq2, n1, n2, t1, t3, hk, hi, hkM, hP.symm, hQ.symm, hP2, hQ2, t2, t4, hs, hinj.1 hs, ansK hS2]
              exact ⟨by omega, rm⟩
            · have hd : sameS (lvlS ls k) (lvlS ls i) = false := by
                cases hc : sameS (lvlS ls k) (lvlS ls i) with
                | false => rfl
                | true => exact absurd (hinj.2 ((sameS_iff _ _).1 hc)) hs
              rw [hd] at hS2
              simp +contextual (disch := omega) [Nat.add_assoc, Int.add_assoc, if_pos, if_neg, -Int.not_lt, -Int.not_le, -Nat.not_lt, -Nat.not_le, -List.length_flatMap, law04_ArenaBack.b3, r3, r4, r5, r6, r13, r16, kp2, kq2, n1, n2, t1, t3, hk, hi, hkM, hP.symm, hQ.symm, hP2, hQ2, t2, t4, hs, ansK hS2]
              exact ⟨by omega, rm⟩
          · rintro e m2 x2 ⟨r3, r4, r5, r6, r13, r16, rx, rm⟩
            simp +contextual (disch := omega) [Nat.add_assoc, Int.add_assoc, if_pos, if_neg, -Int.not_lt, -Int.not_le, -Nat.not_lt, -Nat.not_le, -List.length_flatMap, law04_ArenaBack.b3, r3, r4, r5, r6, r13, r16]
            exact ⟨by omega, fun j hj => by rw [rm j hj, qm j hj]⟩
        · rintro e m' x' ⟨q3, q4, q5, q6, q13, qx, qm⟩
          simp +contextual (disch := omega) [Nat.add_assoc, Int.add_assoc, if_pos, if_neg, -Int.not_lt, -Int.not_le, -Nat.not_lt, -Nat.not_le, -List.length_flatMap, law04_ArenaBack.b4, q3, q4, q5, q6, q13, hpB]
      by_cases h : ls.length ≤ 8
      · have e1 : M = ls.length := by omega
        rw [e1] at g7
        simp +contextual (disch := omega) [Nat.add_assoc, Int.add_assoc, if_pos, if_neg, -Int.not_lt, -Int.not_le, -Nat.not_lt, -Nat.not_le, -List.length_flatMap, law04_ArenaBack.b2, g0, g3, g4, g7]
        exact tail _ _ (by omega) (by simp +contextual (disch := omega) [Nat.add_assoc, Int.add_assoc, if_pos, if_neg, -Int.not_lt, -Int.not_le, -Nat.not_lt, -Nat.not_le, -List.length_flatMap, g3]) (by simp +contextual (disch := omega) [Nat.add_assoc, Int.add_assoc, if_pos, if_neg, -Int.not_lt, -Int.not_le, -Nat.not_lt, -Nat.not_le, -List.length_flatMap, g4]) (by simp +contextual (disch := omega) [Nat.add_assoc, Int.add_assoc, if_pos, if_neg, -Int.not_lt, -Int.not_le, -Nat.not_lt, -Nat.not_le, -List.length_flatMap, hB]) (by simp +contextual (disch := omega) [Nat.add_assoc, Int.add_assoc, if_pos, if_neg, -Int.not_lt, -Int.not_le, -Nat.not_lt, -Nat.not_le, -List.length_flatMap, hC]) (by simp +contextual (disch := omega) [Nat.add_assoc, Int.add_assoc, if_pos, if_neg, -Int.not_lt, -Int.not_le, -Nat.not_lt, -Nat.not_le, -List.length_flatMap])
      · have e1 : M = 8 := by omega
        rw [e1] at g7
        simp +contextual (disch := omega) [Nat.add_assoc, Int.add_assoc, if_pos, if_neg, -Int.not_lt, -Int.not_le, -Nat.not_lt, -Nat.not_le, -List.length_flatMap, law04_ArenaBack.b2, g0, g3, g4, g7, h]
        exact tail _ _ (by omega) (by simp +contextual (disch := omega) [Nat.add_assoc, Int.add_assoc, if_pos, if_neg, -Int.not_lt, -Int.not_le, -Nat.not_lt, -Nat.not_le, -List.length_flatMap, g3]) (by simp +contextual (disch := omega) [Nat.add_assoc, Int.add_assoc, if_pos, if_neg, -Int.not_lt, -Int.not_le, -Nat.not_lt, -Nat.not_le, -List.length_flatMap, g4]) (by simp +contextual (disch := omega) [Nat.add_assoc, Int.add_assoc, if_pos, if_neg, -Int.not_lt, -Int.not_le, -Nat.not_lt, -Nat.not_le, -List.length_flatMap, hB]) (by simp +contextual (disch := omega) [Nat.add_assoc, Int.add_assoc, if_pos, if_neg, -Int.not_lt, -Int.not_le, -Nat.not_lt, -Nat.not_le, -List.length_flatMap, hC]) (by simp +contextual (disch := omega) [Nat.add_assoc, Int.add_assoc, if_pos, if_neg, -Int.not_lt, -Int.not_le, -Nat.not_lt, -Nat.not_le, -List.length_flatMap])
end Pi

