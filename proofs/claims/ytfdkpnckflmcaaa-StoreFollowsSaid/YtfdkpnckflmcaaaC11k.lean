/- Laws of layer 11: stores by numbers. -/
import Derived.Test.YtfdkpnckflmcaaaC11j
set_option linter.unusedSimpArgs false
set_option linter.unusedVariables false
namespace Pi
theorem law11_atoms.a (n : Nat) (hn : n < 256) (l : List Nat) (hb : Byt l) (hl : l.length ≤ 9223372036854775807) : Ans ctx law11_atoms.n [.i .u8 n, sV cU l] (sV cA (atomsB n l)) := by
  refine ans law11_atoms.f ?_
  have hv := varsB_bd n
  simp +contextual (disch := omega) [Nat.add_assoc, Int.add_assoc, if_pos, if_neg, -Int.not_lt, -Int.not_le, -Nat.not_lt, -Nat.not_le, -List.length_flatMap, law11_atoms.c]
  refine for_w (fun i e m x => e 0 = .i .u8 n ∧ e 1 = sV cU l ∧ e 6 = .i .i64 i ∧ Bf m (e 5) cA 2 ((l.take i).map fun x => ⟨((x % varsB n : Nat) : Int), ((x / 8 % 4 : Nat) : Int)⟩) 0 x) (min l.length 4) ?_ ?_ ?_
  · simp +contextual (disch := omega) [Nat.add_assoc, Int.add_assoc, if_pos, if_neg, -Int.not_lt, -Int.not_le, -Nat.not_lt, -Nat.not_le, -List.length_flatMap]
    exact Bf.nil
  · rintro i e m x hi ⟨g0, g1, g6, g5⟩
    have h1 : i < l.length := by omega
    have hi' := h1
    have h2 : i < 4 := by omega
    have hbi := hb.at h1
    generalize hB : e 5 = B at g5
    simp +contextual (disch := omega) [Nat.add_assoc, Int.add_assoc, if_pos, if_neg, -Int.not_lt, -Int.not_le, -Nat.not_lt, -Nat.not_le, -List.length_flatMap, law11_atoms.b1, g0, g1, g6, hB, h1, h2, ansK (law08_Vars.a n hn), Int.tmod_eq_emod_of_nonneg, Int.tdiv_eq_ediv_of_nonneg, -apV_ns]
    have hlen : ((l.take i).map fun x => (⟨((x % varsB n : Nat) : Int), ((x / 8 % 4 : Nat) : Int)⟩ : A)).length = i := by rw [List.length_map, List.length_take]; omega
    have e1 : ((l.take (i + 1)).map fun x => (⟨((x % varsB n : Nat) : Int), ((x / 8 % 4 : Nat) : Int)⟩ : A)) = ((l.take i).map fun x => (⟨((x % varsB n : Nat) : Int), ((x / 8 % 4 : Nat) : Int)⟩ : A)) ++ [⟨((l[i] % varsB n : Nat) : Int), ((l[i] / 8 % 4 : Nat) : Int)⟩] := by
      rw [List.take_succ_eq_append_getElem hi', List.map_append]; rfl
    refine g5.ap [⟨((l[i] % varsB n : Nat) : Int), ((l[i] / 8 % 4 : Nat) : Int)⟩] (by simp +contextual (disch := omega) [Nat.add_assoc, Int.add_assoc, if_pos, if_neg, -Int.not_lt, -Int.not_le, -Nat.not_lt, -Nat.not_le, -List.length_flatMap]) (by omega) (by omega) rfl rfl (by rw [hlen]; simp; omega) ?_
    intro B' ws m2 z0 z1 z2 z3
    rw [← e1] at z1
    simp +contextual (disch := omega) [Nat.add_assoc, Int.add_assoc, if_pos, if_neg, -Int.not_lt, -Int.not_le, -Nat.not_lt, -Nat.not_le, -List.length_flatMap, z0, g0, g1, g6, z1.stor, z1.cells]
    exact z1.to (by simp) (by omega)
  · rintro e m x ⟨g0, g1, g6, g5⟩
    have hat : (l.take (min l.length 4)).map (fun x => (⟨((x % varsB n : Nat) : Int), ((x / 8 % 4 : Nat) : Int)⟩ : A)) = atomsB n l := by
      unfold atomsB
      congr 1
      by_cases h : l.length ≤ 4
      · rw [Nat.min_eq_left h, List.take_length, List.take_of_length_le h]
      · rw [Nat.min_eq_right (by omega)]
    rw [hat] at g5
    have hz := g5.fz24
    generalize hB : e 5 = B at g5 hz
    by_cases h : l.length < 4
    · have e3 : min l.length 4 = l.length := by omega
      rw [e3] at g6
      simp +contextual (disch := omega) [Nat.add_assoc, Int.add_assoc, if_pos, if_neg, -Int.not_lt, -Int.not_le, -Nat.not_lt, -Nat.not_le, -List.length_flatMap, law11_atoms.b1, g0, g1, g6, hB, hz]
    · have e3 : min l.length 4 = 4 := by omega
      rw [e3] at g6
      by_cases h4 : 4 < l.length
      · simp +contextual (disch := omega) [Nat.add_assoc, Int.add_assoc, if_pos, if_neg, -Int.not_lt, -Int.not_le, -Nat.not_lt, -Nat.not_le, -List.length_flatMap, law11_atoms.b1, g0, g1, g6, hB, hz, h4]
      · simp +contextual (disch := omega) [Nat.add_assoc, Int.add_assoc, if_pos, if_neg, -Int.not_lt, -Int.not_le, -Nat.not_lt, -Nat.not_le, -List.length_flatMap, law11_atoms.b1, g0, g1, g6, hB, hz, h4]
set_option maxHeartbeats 1000000 in
theorem law11_Made.a (n : Nat) (hn : n < 256) (l : List Nat) (hb : Byt l) (hl : l.length ≤ 9223372036854775807) : Ans ctx law11_Made.n [.i .u8 n, sV cU l] (.ag (cS (madeSt n l))) := by
  refine ans law11_Made.f ?_
  have hv := varsB_bd n
  have hN := ref11_New.a (varsB n)
  have eN : newV (varsB n) = .tu [.ag (cS (emptyS (varsB n))), .i .i64 0] := by
    unfold newV
    rw [if_neg (by omega)]
    rfl
  rw [eN] at hN
  have hml := made_len n l
  have hgd := madeSt_gd n l
  have hst := madeSt_step n l
  have hok : ∀ c ∈ madeC n l, okC (varsB n) c = true := made_ok n l
  have hM : madeSt n l = (((madeC n l).take 15).take ((madeC n l).take 15).length).foldl (fun s c => addS s [c]) (emptyS (varsB n)) := by rw [List.take_length]; rfl
  have htl : ((madeC n l).take 15).length = min (madeC n l).length 15 := by rw [List.length_take]; omega
  rw [htl] at hM
  rw [hM]
  simp +contextual (disch := omega) [Nat.add_assoc, Int.add_assoc, if_pos, if_neg, -Int.not_lt, -Int.not_le, -Nat.not_lt, -Nat.not_le, -List.length_flatMap, law11_Made.c, ansK (law08_Vars.a n hn), ansK hN, ansK (law08_Made.a n hn l hb hl)]
  clear hM
  generalize madeC n l = M at *
  obtain ⟨F, hF⟩ : ∃ F : Nat → St, ∀ i, F i = ((M.take 15).take i).foldl (fun s c => addS s [c]) (emptyS (varsB n)) := ⟨_, fun _ => rfl⟩
  simp only [← hF] at hgd hst ⊢
  have hF0 : F 0 = emptyS (varsB n) := by rw [hF]; rfl
  refine for_w (fun i e m x => e 4 = .p 0 0 ∧ e 5 = .p 5 0 ∧ e 7 = sV cC M ∧ e 8 = .i .i64 i ∧ 6 ≤ x ∧ m 0 = some (.cells [.i .i64 0, .ns, .ns] false) ∧ m 5 = some (.cells (cS (F i)) false)) (min M.length 15) ?_ ?_ ?_
  · simp +contextual (disch := omega) [Nat.add_assoc, Int.add_assoc, if_pos, if_neg, -Int.not_lt, -Int.not_le, -Nat.not_lt, -Nat.not_le, -List.length_flatMap, hF0]
  · rintro i e m x hi ⟨g4, g5, g7, g8, hx, y0, y5⟩
    have h1 : i < M.length := by omega
    have h2 : i < 15 := by omega
    have hcut : (M.drop i).take 1 = [M[i]] := by rw [List.drop_eq_getElem_cons h1]; rfl
    have hg := hgd i (by omega)
    have hA := ref11_Add.a (F i) [M[i]] hg.few (by simp) (fun c hc => by rw [List.mem_singleton.1 hc]; exact Nat.le_trans (okC_six (hok _ (List.getElem_mem h1))) (by omega))
    rw [hg.addV (one_right (by omega) (by omega) (hok _ (List.getElem_mem h1))) (by simp; omega)] at hA
    have hs := hst i (by omega)
    rw [List.getElem_take] at hs
    rw [← hs] at hA
    split at hA
    · simp +contextual (disch := omega) [Nat.add_assoc, Int.add_assoc, if_pos, if_neg, -Int.not_lt, -Int.not_le, -Nat.not_lt, -Nat.not_le, -List.length_flatMap, law11_Made.b1, g4, g5, g7, g8, y0, y5, h1, h2, hcut, ansK hA]
    · simp +contextual (disch := omega) [Nat.add_assoc, Int.add_assoc, if_pos, if_neg, -Int.not_lt, -Int.not_le, -Nat.not_lt, -Nat.not_le, -List.length_flatMap, law11_Made.b1, g4, g5, g7, g8, y0, y5, h1, h2, hcut, ansK hA]
  · rintro e m x ⟨g4, g5, g7, g8, hx, y0, y5⟩
    by_cases h : M.length < 15
    · have e3 : min M.length 15 = M.length := by omega
      rw [e3] at g8 y5 ⊢
      simp +contextual (disch := omega) [Nat.add_assoc, Int.add_assoc, if_pos, if_neg, -Int.not_lt, -Int.not_le, -Nat.not_lt, -Nat.not_le, -List.length_flatMap, law11_Made.b1, g4, g5, g7, g8, y0, y5]
    · have e3 : min M.length 15 = 15 := by omega
      rw [e3] at g8 y5 ⊢
      by_cases h4 : 15 < M.length
      · simp +contextual (disch := omega) [Nat.add_assoc, Int.add_assoc, if_pos, if_neg, -Int.not_lt, -Int.not_le, -Nat.not_lt, -Nat.not_le, -List.length_flatMap, law11_Made.b1, g4, g5, g7, g8, y0, y5, h4]
      · simp +contextual (disch := omega) [Nat.add_assoc, Int.add_assoc, if_pos, if_neg, -Int.not_lt, -Int.not_le, -Nat.not_lt, -Nat.not_le, -List.length_flatMap, law11_Made.b1, g4, g5, g7, g8, y0, y5, h4]
end Pi
