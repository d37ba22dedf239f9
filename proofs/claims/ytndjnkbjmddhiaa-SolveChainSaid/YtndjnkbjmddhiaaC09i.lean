/- Laws of layer 9: a clause more. -/
import Derived.Test.YtndjnkbjmddhiaaC09h
set_option linter.unusedSimpArgs false
set_option linter.unusedVariables false
namespace Pi
theorem more_same {n : Nat} {M O : List C} (hn : 0 < n) (hM : ∀ c ∈ M, okC n c = true) (hO : ∀ c, c ∈ O ↔ c ∈ M) : (solveC n O).2.1 = (solveC n M).2.1 ∧ (solveC n O).1 = (solveC n M).1 := by
  have hh : ∀ m, holdsC O m ↔ holdsC M m := fun m => ⟨fun h c hc => h c ((hO c).2 hc), fun h c hc => h c ((hO c).1 hc)⟩
  rcases solve_spec hn hM with ⟨a1, a2, a3⟩ | ⟨a1, a2, a3⟩ <;> rcases solve_spec (l := O) hn (fun c hc => hM c ((hO c).1 hc)) with ⟨b1, b2, b3⟩ | ⟨b1, b2, b3⟩
  · exact ⟨by rw [a1, b1], b2.unique a2 hh⟩
  · exact (b3 _ (by rw [a2.len, noughts_len]) (le_noughts.1 a2.ge) ((hh _).2 a2.holds)).elim
  · exact (a3 _ (by rw [b2.len, noughts_len]) (le_noughts.1 b2.ge) ((hh _).1 b2.holds)).elim
  · exact ⟨by rw [a1, b1], by rw [a2, b2]⟩
def eqB (a b : List Int) (i : Nat) : Bool := (List.range i).all fun j => decide (a.getD j 0 = b.getD j 0)
theorem eqB_s (a b : List Int) (i : Nat) : eqB a b (i + 1) = (eqB a b i && decide (a.getD i 0 = b.getD i 0)) := by
  unfold eqB
  rw [List.range_succ, List.all_append]
  simp
theorem eqB_eq {a b : List Int} {n : Nat} (ha : a.length = n) (hb : b.length = n) : eqB a b n = decide (a = b) := by
  rw [Bool.eq_iff_iff, decide_eq_true_iff]
  unfold eqB
  rw [List.all_eq_true]
  constructor
  · intro h
    refine List.ext_getElem (by omega) fun i h1 h2 => ?_
    have := h i (List.mem_range.2 (by omega))
    rw [decide_eq_true_iff, getD_get _ _ h1, getD_get _ _ h2] at this
    exact this
  · rintro rfl i _; simp
theorem right_of {vars : Int} {l : List C} (h1 : 1 ≤ vars) (h2 : vars ≤ 16) (h3 : l.length ≤ 60) (h4 : ∀ c ∈ l, okC vars c = true) : rightC vars l = true := by
  simp [rightC]
  exact ⟨⟨⟨h1, h2⟩, by omega⟩, h4⟩
set_option maxRecDepth 20000 in
set_option maxHeartbeats 1000000 in
theorem law09_SolveMore.a (n : Nat) (hn : n < 256) (l : List Nat) (hb : Byt l) (hl : l.length ≤ 9223372036854775807) (k : Nat) (hk : k < 256) : Ans ctx law09_SolveMore.n [.i .u8 n, sV cU l, .i .u8 k] (.b true) := by
  refine ans law09_SolveMore.f ?_
  have h1 := made_len n l
  have h3 := varsB_bd n
  have hR := madeC_right n l
  have hO := made_ok n l
  have hS := made_six n l
  by_cases h0 : (madeC n l).length = 0
  · simp +contextual (disch := omega) [Nat.add_assoc, Int.add_assoc, if_pos, if_neg, -Int.not_lt, -Int.not_le, -Nat.not_lt, -Nat.not_le, -List.length_flatMap, law09_SolveMore.c, ansK (law08_Vars.a n hn), ansK (law08_Made.a n hn l hb hl), h0]
  · have hSv := solve_Solve.a (varsB n) (madeC n l) (by omega) hS
    rw [solveV, if_pos hR] at hSv
    simp only [Int.toNat_natCast] at hSv
    have hd : ((madeC n l).length : Int) ≠ 0 := by omega
    obtain ⟨q, hq⟩ : ∃ q, q = k % (madeC n l).length := ⟨_, rfl⟩
    have hql : q < (madeC n l).length := hq ▸ Nat.mod_lt _ (by omega)
    have hqe : (k : Int) % ((madeC n l).length : Int) = (q : Nat) := by rw [hq]; simp
    simp +contextual (disch := omega) [Nat.add_assoc, Int.add_assoc, if_pos, if_neg, -Int.not_lt, -Int.not_le, -Nat.not_lt, -Nat.not_le, -List.length_flatMap, law09_SolveMore.c, ansK (law08_Vars.a n hn), ansK (law08_Made.a n hn l hb hl), h0, hd, hqe, Int.tmod_eq_emod_of_nonneg, -apV_ns]
    refine (Bf.nil (f := cC) (k := 3) (lo := 0) (x := 22) (m := fun _ => none)).ap ((madeC n l).take q) (fun _ _ _ => rfl) (by omega) (by omega) rfl (by simp; omega) (by simp; omega) ?_
    intro B1 ws1 m1 p1 p2 p3 p4
    simp +contextual (disch := omega) [Nat.add_assoc, Int.add_assoc, if_pos, if_neg, -Int.not_lt, -Int.not_le, -Nat.not_lt, -Nat.not_le, -List.length_flatMap, p1, p2.stor, p2.cells, -apV_ns]
    refine p2.ap ((madeC n l).drop (q + 1)) (fun _ _ _ => rfl) (by omega) (by omega) (by rw [List.take_of_length_le (by simp)]) (by simp) (by simp; omega) ?_
    intro B2 ws2 m2 q1 q2 q3 q4
    simp +contextual (disch := omega) [Nat.add_assoc, Int.add_assoc, if_pos, if_neg, -Int.not_lt, -Int.not_le, -Nat.not_lt, -Nat.not_le, -List.length_flatMap, q1, q2.stor, q2.cells, -apV_ns]
    refine (Bf.nil (f := cC) (k := 3) (lo := 28) (m := m2)).ap ((madeC n l).drop q) (fun _ _ _ => rfl) (Nat.le_refl _) (by omega) (by rw [List.take_of_length_le (by simp)]) (by simp) (by simp; omega) ?_
    intro B3 ws3 m3 r1 r2 r3 r4
    simp +contextual (disch := omega) [Nat.add_assoc, Int.add_assoc, if_pos, if_neg, -Int.not_lt, -Int.not_le, -Nat.not_lt, -Nat.not_le, -List.length_flatMap, r1, r2.stor, r2.cells, -apV_ns]
    refine r2.ap ((madeC n l).take q) (fun _ _ _ => rfl) (by omega) (by omega) rfl (by simp; omega) (by simp; omega) ?_
    intro B4 ws4 m4 s1 s2 s3 s4
    have u2 : Bf m4 B2 cC 3 ((madeC n l).take q ++ (madeC n l).drop (q + 1)) 0 28 := q2.up (Nat.le_refl _) (fun j _ h => by rw [s3 j h, r3 j h])
    generalize hL : (madeC n l).take q ++ (madeC n l).drop (q + 1) = L at u2
    obtain ⟨O, hOO⟩ : ∃ O, (madeC n l).drop q ++ (madeC n l).take q = O := ⟨_, rfl⟩
    have u4 := s2.to hOO (Nat.le_refl _)
    have mL : ∀ c ∈ L, c ∈ madeC n l := by
      intro c hc
      rw [← hL] at hc
      rcases List.mem_append.1 hc with hc | hc
      · exact List.mem_of_mem_take hc
      · exact List.mem_of_mem_drop hc
    have mO : ∀ c, c ∈ O ↔ c ∈ madeC n l := by
      intro c
      rw [← hOO]
      conv => rhs; rw [← List.take_append_drop q (madeC n l)]
      rw [List.mem_append, List.mem_append, or_comm]
    have lL : L.length ≤ 30 := by rw [← hL]; simp; omega
    have lO : O.length ≤ 30 := by rw [← hOO]; simp; omega
    have hRL : rightC (varsB n) L = true := right_of (by omega) (by omega) (by omega) fun c hc => hO c (mL c hc)
    have hRO : rightC (varsB n) O = true := right_of (by omega) (by omega) (by omega) fun c hc => hO c ((mO c).1 hc)
    have hSL := solve_Solve.a (varsB n) L (by omega) (fun c hc => hS c (mL c hc))
    have hSO := solve_Solve.a (varsB n) O (by omega) (fun c hc => hS c ((mO c).1 hc))
    rw [solveV, if_pos hRL] at hSL
    rw [solveV, if_pos hRO] at hSO
    simp only [Int.toNat_natCast] at hSL hSO
    obtain ⟨e1, e2⟩ := more_same (n := varsB n) (by omega) hO mO
    rw [e1, e2] at hSO
    have hsp := solve_spec (n := varsB n) (l := madeC n l) (by omega) hO
    have hsL := solve_spec (n := varsB n) (l := L) (by omega) (fun c hc => hO c (mL c hc))
    have hlen : (solveC (varsB n) (madeC n l)).1.length ≤ 16 := by
      rcases hsp with ⟨_, h, _⟩ | ⟨_, h, _⟩
      · rw [h.len, noughts_len]; omega
      · rw [h]; simp
    generalize (solveC (varsB n) O).2.2 = o3 at *
    generalize solveC (varsB n) (madeC n l) = s at *
    generalize solveC (varsB n) L = t at *
    obtain ⟨z1, z2, z3⟩ := s
    obtain ⟨t1, t2, t3⟩ := t
    simp only at hSv hSL hSO hsp hsL hlen
    have hI := ref08_Ints.a z1 z1 (by omega)
    rcases hsp with ⟨rfl, LM, lim⟩ | ⟨rfl, rfl, NM⟩
    · rcases hsL with ⟨rfl, LL, liml⟩ | ⟨_, _, NM⟩
      · have lz : z1.length = varsB n := by rw [LM.len, noughts_len]
        have lt : t1.length = varsB n := by rw [LL.len, noughts_len]
        have htz : LeM t1 z1 := LL.least z1 (by rw [noughts_len]; exact lz) LM.ge (fun c hc => LM.holds c (mL c hc))
        have hbd := limC_bd hRL 0 (by omega) (by omega)
        have htN : Nats t1 := LL.nats liml (by omega)
        have hB := ref08_Broken.a [(madeC n l)[q]] t1 (by simp) (by simpa using hS _ (List.getElem_mem hql)) (by omega)
        rw [broken_v (by rw [lt]; exact right_of (by omega) (by omega) (by simp) (by simpa using hO _ (List.getElem_mem hql))) htN] at hB
        have hfin : decide (t1 = z1) = decide ((placesS (brokenC t1) [(madeC n l)[q]]).length = 0) := by
          rw [decide_eq_decide, places_len0]
          constructor
          · rintro rfl c hc
            rw [List.mem_singleton] at hc
            subst hc
            exact LM.holds _ (List.getElem_mem hql)
          · intro h
            refine LeM.anti (by omega) htz (LM.least t1 (by rw [noughts_len]; exact lt) LL.ge fun c hc => ?_)
            rw [← List.take_append_drop q (madeC n l), List.drop_eq_getElem_cons hql] at hc
            rcases List.mem_append.1 hc with hc | hc
            · exact LL.holds c (by rw [← hL]; exact List.mem_append_left _ hc)
            · rcases List.mem_cons.1 hc with rfl | hc
              · exact h _ (List.mem_singleton.2 rfl)
              · exact LL.holds c (by rw [← hL]; exact List.mem_append_right _ hc)
        have hcut : (List.take 1 (List.drop q (madeC n l))) = [(madeC n l)[q]] := by rw [List.drop_eq_getElem_cons hql]; rfl
        simp +contextual (disch := omega) [Nat.add_assoc, Int.add_assoc, if_pos, if_neg, -Int.not_lt, -Int.not_le, -Nat.not_lt, -Nat.not_le, -List.length_flatMap, s1, u4.stor, u4.cells, ansK hSv, ansK hSL, ansK hSO, u2.fz24, u4.fz24, ansK hI]
        refine for_w (fun i e m x => e 7 = .b true ∧ e 8 = .i .i64 (varsB n : Nat) ∧ e 9 = sV cC (madeC n l) ∧ e 10 = .i .i64 q ∧ e 13 = sV cI z1 ∧ e 17 = sV cI t1 ∧ e 25 = .b (eqB t1 z1 i) ∧ e 26 = .i .i64 i) (varsB n) ?_ ?_ ?_
        · simp +contextual (disch := omega) [Nat.add_assoc, Int.add_assoc, if_pos, if_neg, -Int.not_lt, -Int.not_le, -Nat.not_lt, -Nat.not_le, -List.length_flatMap]
          rfl
        · rintro i e m x hi ⟨g7, g8, g9, g10, g13, g17, g25, g26⟩
          have q1 := htz i
          have q2 := eqB_s t1 z1 i
          rw [getD_get _ _ (by omega : i < t1.length), getD_get _ _ (by omega : i < z1.length)] at q1 q2
          cases hg : eqB t1 z1 i <;> rw [hg] at g25 q2 <;> simp +contextual (disch := omega) [Nat.add_assoc, Int.add_assoc, if_pos, if_neg, -Int.not_lt, -Int.not_le, -Nat.not_lt, -Nat.not_le, -List.length_flatMap, law09_SolveMore.b1, g7, g8, g9, g10, g13, g17, g25, g26, hi, lz, lt, q2]
        · rintro e m x ⟨g7, g8, g9, g10, g13, g17, g25, g26⟩
          rw [eqB_eq lt lz, hfin] at g25
          simp +contextual (disch := omega) [Nat.add_assoc, Int.add_assoc, if_pos, if_neg, -Int.not_lt, -Int.not_le, -Nat.not_lt, -Nat.not_le, -List.length_flatMap, law09_SolveMore.b1, g7, g8, g9, g10, g13, g17, g25, g26, hcut, ansK hB]
      · exact (NM z1 (by rw [LM.len, noughts_len]) (le_noughts.1 LM.ge) (fun c hc => LM.holds c (mL c hc))).elim
    · simp +contextual (disch := omega) [Nat.add_assoc, Int.add_assoc, if_pos, if_neg, -Int.not_lt, -Int.not_le, -Nat.not_lt, -Nat.not_le, -List.length_flatMap, s1, u4.stor, u4.cells, ansK hSv, ansK hSL, ansK hSO, u2.fz24, u4.fz24, ansK hI]
end Pi
