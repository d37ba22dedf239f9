/- Laws of layer 10: Core is what the document says. -/
import Derived.Test.YtfdkpnckflmcaaaC10e
import Derived.Test.YtfdkpnckflmcaaaC08i
set_option linter.unusedSimpArgs false
set_option linter.unusedVariables false
namespace Pi
theorem coreL_len (n : Nat) (l : List C) : (coreL n l).length ≤ l.length := by
  unfold coreL
  suffices h : ∀ (is now : List Nat), (is.foldl (stepL n l) now).length ≤ now.length by
    have := h (List.range l.length) (List.range l.length)
    rwa [List.length_range] at this
  intro is
  induction is with
  | nil => intro now; exact Nat.le_refl _
  | cons i is ih =>
    intro now
    refine Nat.le_trans (ih _) ?_
    unfold stepL
    split
    · exact less_len _ _
    · exact Nat.le_refl _
theorem coreV_tu (vars : Int) (l : List C) : ∃ a b, coreV vars l = .tu [sV cI a, .i .i64 b] ∧ a.length ≤ 60 := by
  unfold coreV
  split
  · rename_i h
    obtain ⟨r1, r2, r3, r4⟩ := right_ok h
    split
    · exact ⟨_, _, rfl, by rw [intL_len]; exact Nat.le_trans (coreL_len _ _) r3⟩
    · exact ⟨_, _, rfl, by simp⟩
  · exact ⟨_, _, rfl, by simp⟩
set_option maxRecDepth 20000 in
theorem law10_same.a (vars : Int) (l : List C) (p : List Int) (hl : l.length ≤ 9223372036854775807) (hf : ∀ c ∈ l, c.frm.length ≤ 9223372036854775807) (hp : p.length ≤ 1000) : Ans ctx law10_same.n [.i .i64 vars, sV cC l, sV cI p] (.b true) := by
  refine ans law10_same.f ?_
  have h1 := core_Core.a vars l hl hf
  have h2 := ref10_Core.a vars l hl hf
  obtain ⟨a, b, e, hn⟩ := coreV_tu vars l
  rw [e] at h1 h2
  have h3 := core_Proves.a vars l p hl hf hp
  have h4 := ref10_Proves.a vars l p hl hf hp
  have h5 := core_Proves.a vars l a hl hf (by omega)
  have h6 := ref10_Proves.a vars l a hl hf (by omega)
  simp +contextual (disch := omega) [Nat.add_assoc, Int.add_assoc, if_pos, if_neg, -Int.not_lt, -Int.not_le, -Nat.not_lt, -Nat.not_le, -List.length_flatMap, law10_same.c, ansK h1, ansK h2, ansK h3, ansK h4, ansK h5, ansK h6, ansK (ref08_Ints.a a a (by omega))]
theorem law10_CoreAny.a (vars : Int) (l : List C) (p : List Int) (hl : l.length ≤ 9223372036854775807) (ok : ∀ c ∈ l, c.Ok) (hp : p.length ≤ 9223372036854775807) : Ans ctx law10_CoreAny.n [.i .i64 vars, sV cC l, sV cI p] (.b true) := by
  refine ans law10_CoreAny.f ?_
  have hf : ∀ c ∈ l, c.frm.length ≤ 9223372036854775807 := fun c hc => Nat.le_trans (ok c hc).1 (by decide)
  simp +contextual (disch := omega) [Nat.add_assoc, Int.add_assoc, if_pos, if_neg, -Int.not_lt, -Int.not_le, -Nat.not_lt, -Nat.not_le, -List.length_flatMap, law10_CoreAny.c]
  refine for_w (fun i e m x => e 0 = .i .i64 vars ∧ e 1 = sV cC l ∧ e 2 = sV cI p ∧ e 8 = .i .i64 i ∧ ∃ n, e 7 = .i .i64 n) l.length ?_ ?_ ?_
  · simp +contextual (disch := omega) [Nat.add_assoc, Int.add_assoc, if_pos, if_neg, -Int.not_lt, -Int.not_le, -Nat.not_lt, -Nat.not_le, -List.length_flatMap]
  · rintro i e m x hi ⟨g1, g2, g3, g4, n, g5⟩
    by_cases hn : n ≤ 100
    · by_cases h1 : 20 < l[i].to.off
      · by_cases h2 : l[i].to.off ≤ 1000
        · simp +contextual (disch := omega) [Nat.add_assoc, Int.add_assoc, if_pos, if_neg, -Int.not_lt, -Int.not_le, -Nat.not_lt, -Nat.not_le, -List.length_flatMap, law10_CoreAny.b1, g1, g2, g3, g4, g5, hi]
        · simp +contextual (disch := omega) [Nat.add_assoc, Int.add_assoc, if_pos, if_neg, -Int.not_lt, -Int.not_le, -Nat.not_lt, -Nat.not_le, -List.length_flatMap, law10_CoreAny.b1, g1, g2, g3, g4, g5, hi]
      · simp +contextual (disch := omega) [Nat.add_assoc, Int.add_assoc, if_pos, if_neg, -Int.not_lt, -Int.not_le, -Nat.not_lt, -Nat.not_le, -List.length_flatMap, law10_CoreAny.b1, g1, g2, g3, g4, g5, hi]
    · simp +contextual (disch := omega) [Nat.add_assoc, Int.add_assoc, if_pos, if_neg, -Int.not_lt, -Int.not_le, -Nat.not_lt, -Nat.not_le, -List.length_flatMap, law10_CoreAny.b1, g1, g2, g3, g4, g5, hi]
  · rintro e m x ⟨g1, g2, g3, g4, n, g5⟩
    by_cases hn : n ≤ 100
    · by_cases hm2 : 100 < p.length
      · simp +contextual (disch := omega) [Nat.add_assoc, Int.add_assoc, if_pos, if_neg, -Int.not_lt, -Int.not_le, -Nat.not_lt, -Nat.not_le, -List.length_flatMap, law10_CoreAny.b1, g1, g2, g3, g4, g5]
      · simp +contextual (disch := omega) [Nat.add_assoc, Int.add_assoc, if_pos, if_neg, -Int.not_lt, -Int.not_le, -Nat.not_lt, -Nat.not_le, -List.length_flatMap, law10_CoreAny.b1, g1, g2, g3, g4, g5, ansK (law10_same.a vars l p hl hf (by omega))]
    · simp +contextual (disch := omega) [Nat.add_assoc, Int.add_assoc, if_pos, if_neg, -Int.not_lt, -Int.not_le, -Nat.not_lt, -Nat.not_le, -List.length_flatMap, law10_CoreAny.b1, g1, g2, g3, g4, g5]
theorem law10_CoreMade.a (n : Nat) (hn : n < 256) (l : List Nat) (hb : Byt l) (hl : l.length ≤ 9223372036854775807) (ps : List Nat) (hbp : Byt ps) (hlp : ps.length ≤ 9223372036854775807) (raw : Bool) : Ans ctx law10_CoreMade.n [.i .u8 n, sV cU l, sV cU ps, .b raw] (.b true) := by
  refine ans law10_CoreMade.f ?_
  have h1 : (madeC n l).length ≤ 30 := madeB_len _ _ _
  have hs : ∀ c ∈ madeC n l, c.frm.length ≤ 9223372036854775807 := fun c hc => Nat.le_trans (okC_six ((right_ok (madeC_right n l)).2.2.2 c hc)) (by omega)
  simp +contextual (disch := omega) [Nat.add_assoc, Int.add_assoc, if_pos, if_neg, -Int.not_lt, -Int.not_le, -Nat.not_lt, -Nat.not_le, -List.length_flatMap, law10_CoreMade.c]
  refine while_w (fun k e m x => ∃ (i : Nat) (p : List Int) (last : Int), k = ps.length - i ∧ p.length = i ∧ i ≤ 20 ∧ i ≤ ps.length ∧ -1 ≤ last ∧ last ≤ 100 * i ∧ e 0 = .i .u8 n ∧ e 1 = sV cU l ∧ e 2 = sV cU ps ∧ e 3 = .b raw ∧ e 10 = .i .i64 last ∧ e 11 = .i .i64 i ∧ Bf m (e 9) cI 1 p 0 x) ps.length ?_ ?_
  · refine ⟨0, [], -1, ?_⟩
    simp +contextual (disch := omega) [Nat.add_assoc, Int.add_assoc, if_pos, if_neg, -Int.not_lt, -Int.not_le, -Nat.not_lt, -Nat.not_le, -List.length_flatMap]
    exact Bf.nil (f := cI) (k := 1)
  · rintro k e m x ⟨i, p, last, hk, hpl, hi20, hil, hla, hlb, g0, g1, g2, g3, g10, g11, g9⟩
    by_cases hi : i < ps.length
    · by_cases h20 : i < 20
      · have hbi := hbp.at hi
        obtain ⟨P, hP⟩ : ∃ P, P = ps[i] := ⟨_, rfl⟩
        cases raw
        · simp +contextual (disch := omega) [Nat.add_assoc, Int.add_assoc, if_pos, if_neg, -Int.not_lt, -Int.not_le, -Nat.not_lt, -Nat.not_le, -List.length_flatMap, law10_CoreMade.b1, g0, g1, g2, g3, g10, g11, hi, h20, Int.tmod_eq_emod_of_nonneg, ← hP]
          refine g9.ap [last + (1 + (P : Int) % 3)] (by simp +contextual (disch := omega) [Nat.add_assoc, Int.add_assoc, if_pos, if_neg, -Int.not_lt, -Int.not_le, -Nat.not_lt, -Nat.not_le, -List.length_flatMap]) (by omega) (by omega) rfl rfl (by simp; omega) ?_
          intro B' ws m2 z0 z1 z2 z3
          simp +contextual (disch := omega) [Nat.add_assoc, Int.add_assoc, if_pos, if_neg, -Int.not_lt, -Int.not_le, -Nat.not_lt, -Nat.not_le, -List.length_flatMap, z0, g0, g1, g2, g3, g10, g11, z1.stor, z1.cells]
          exact ⟨ps.length - (i + 1), by omega, i + 1, rfl, p ++ [last + (1 + (P : Int) % 3)], by simp; omega, by omega, by omega, last + (1 + (P : Int) % 3), by omega, by omega, rfl, by simp, z1.up (by omega) (fun _ _ _ => rfl)⟩
        · simp +contextual (disch := omega) [Nat.add_assoc, Int.add_assoc, if_pos, if_neg, -Int.not_lt, -Int.not_le, -Nat.not_lt, -Nat.not_le, -List.length_flatMap, law10_CoreMade.b1, g0, g1, g2, g3, g10, g11, hi, h20, Int.tmod_eq_emod_of_nonneg, ← hP]
          refine g9.ap [(P : Int) % 32] (by simp +contextual (disch := omega) [Nat.add_assoc, Int.add_assoc, if_pos, if_neg, -Int.not_lt, -Int.not_le, -Nat.not_lt, -Nat.not_le, -List.length_flatMap]) (by omega) (by omega) rfl rfl (by simp; omega) ?_
          intro B' ws m2 z0 z1 z2 z3
          simp +contextual (disch := omega) [Nat.add_assoc, Int.add_assoc, if_pos, if_neg, -Int.not_lt, -Int.not_le, -Nat.not_lt, -Nat.not_le, -List.length_flatMap, z0, g0, g1, g2, g3, g10, g11, z1.stor, z1.cells]
          exact ⟨ps.length - (i + 1), by omega, i + 1, rfl, p ++ [(P : Int) % 32], by simp; omega, by omega, by omega, (P : Int) % 32, by omega, by omega, rfl, by simp, z1.up (by omega) (fun _ _ _ => rfl)⟩
      · simp +contextual (disch := omega) [Nat.add_assoc, Int.add_assoc, if_pos, if_neg, -Int.not_lt, -Int.not_le, -Nat.not_lt, -Nat.not_le, -List.length_flatMap, law10_CoreMade.b1, g0, g1, g2, g3, g10, g11, hi, h20, ansK (law08_Vars.a n hn), ansK (law08_Made.a n hn l hb hl), g9.fz24, ansK (law10_same.a (varsB n) (madeC n l) p (by omega) hs (by omega))]
    · simp +contextual (disch := omega) [Nat.add_assoc, Int.add_assoc, if_pos, if_neg, -Int.not_lt, -Int.not_le, -Nat.not_lt, -Nat.not_le, -List.length_flatMap, law10_CoreMade.b1, g0, g1, g2, g3, g10, g11, hi, ansK (law08_Vars.a n hn), ansK (law08_Made.a n hn l hb hl), g9.fz24, ansK (law10_same.a (varsB n) (madeC n l) p (by omega) hs (by omega))]
theorem natL_intL (p : List Nat) : natL (intL p) = p := by
  unfold natL intL
  rw [List.map_map]
  conv => rhs; rw [← List.map_id p]
  apply List.map_congr_left
  intro a _
  simp
theorem rise_pair {n : Nat} : ∀ (p : List Nat) (a : Int), (∀ i ∈ p, i < n ∧ a < (i : Int)) → p.Pairwise (· < ·) → riseB n a (intL p) = true := by
  intro p
  induction p with
  | nil => intro a _ _; rfl
  | cons b p ih =>
    intro a h hp
    have hb := h b (List.mem_cons_self)
    rw [List.pairwise_cons] at hp
    show (decide (a < (b : Int)) && decide ((b : Int) < n) && riseB n b (intL p)) = true
    rw [ih b (fun i hi => ⟨(h i (List.mem_cons_of_mem _ hi)).1, by have := hp.1 i hi; omega⟩) hp.2]
    simp
    omega
theorem less_cut : ∀ (p : List Nat) (i : Nat) (hi : i < p.length), p.Pairwise (· < ·) → p.take i ++ p.drop (i + 1) = lessL p p[i] := by
  intro p
  induction p with
  | nil => intro i hi; simp at hi
  | cons b p ih =>
    intro i hi hp
    rw [List.pairwise_cons] at hp
    cases i with
    | zero =>
      simp only [List.take_zero, List.nil_append, List.drop_succ_cons, List.drop_zero, List.getElem_cons_zero]
      unfold lessL
      rw [List.filter_cons_of_neg (by simp)]
      symm
      rw [List.filter_eq_self]
      intro j hj
      have := hp.1 j hj
      simp; omega
    | succ i =>
      have hi' : i < p.length := by simpa using hi
      have := ih i hi' hp.2
      simp only [List.take_succ_cons, List.drop_succ_cons, List.cons_append, List.getElem_cons_succ]
      rw [this]
      unfold lessL
      rw [List.filter_cons_of_pos]
      have := hp.1 _ (List.getElem_mem hi')
      simp; omega
set_option maxRecDepth 20000 in
theorem law10_CoreProves.a (n : Nat) (hn : n < 256) (l : List Nat) (hb : Byt l) (hl : l.length ≤ 9223372036854775807) : Ans ctx law10_CoreProves.n [.i .u8 n, sV cU l] (.b true) := by
  refine ans law10_CoreProves.f ?_
  have h1 : (madeC n l).length ≤ 30 := madeB_len _ _ _
  have hR := madeC_right n l
  have hO := (right_ok hR).2.2.2
  have hv : 1 ≤ varsB n ∧ varsB n ≤ 8 := by unfold varsB; omega
  have hs : ∀ c ∈ madeC n l, c.frm.length ≤ 9223372036854775807 := fun c hc => Nat.le_trans (okC_six (hO c hc)) (by omega)
  have hC := core_Core.a (varsB n) (madeC n l) (by omega) hs
  obtain ⟨m0, k0, hS⟩ := ref_ok (vars := varsB n) (by omega) hs hR
  rw [coreV, if_pos hR] at hC
  simp only [Int.toNat_natCast] at hC hS
  cases hlo : lostC (varsB n) (madeC n l) with
  | false =>
    rw [hlo] at hC hS
    simp only [Bool.false_eq_true, if_false] at hC
    have hz : provesB (varsB n) (madeC n l) [] = false := by
      unfold provesB natL pickC
      rw [List.map_nil, List.map_nil, Int.toNat_natCast, lost_nil (by omega)]
      simp
    have hP := core_Proves.a (varsB n) (madeC n l) [] (by omega) hs (by simp)
    rw [hz] at hP
    simp +contextual (disch := omega) [Nat.add_assoc, Int.add_assoc, if_pos, if_neg, -Int.not_lt, -Int.not_le, -Nat.not_lt, -Nat.not_le, -List.length_flatMap, law10_CoreProves.c, ansK (law08_Vars.a n hn), ansK (law08_Made.a n hn l hb hl), ansK hC, ansK hS, ansK hP]
    refine for_w (fun i e m x => e 5 = .b true ∧ e 8 = sV cI [] ∧ e 14 = .i .i64 i) 0 ?_ ?_ ?_
    · simp +contextual (disch := omega) [Nat.add_assoc, Int.add_assoc, if_pos, if_neg, -Int.not_lt, -Int.not_le, -Nat.not_lt, -Nat.not_le, -List.length_flatMap]
    · rintro i e m x hi
      omega
    · rintro e m x ⟨g5, g8, g14⟩
      simp +contextual (disch := omega) [Nat.add_assoc, Int.add_assoc, if_pos, if_neg, -Int.not_lt, -Int.not_le, -Nat.not_lt, -Nat.not_le, -List.length_flatMap, law10_CoreProves.b1, g5, g8, g14]
  | true =>
    rw [hlo] at hC hS
    simp only [if_true] at hC
    have ha0 := coreL_ne (n := varsB n) (by omega) hlo
    have ha1 := coreL_lt (n := varsB n) (l := madeC n l)
    have ha2 := coreL_pair (n := varsB n) (l := madeC n l)
    have ha3 := coreL_lost hlo
    have ha4 := fun j => coreL_least (n := varsB n) (l := madeC n l) (by omega) hO (j := j)
    have ha5 := coreL_len (varsB n) (madeC n l)
    generalize coreL (varsB n) (madeC n l) = a at *
    have hal := intL_len a
    have ha0' : a.length ≠ 0 := fun h => ha0 (List.eq_nil_of_length_eq_zero h)
    have hz : provesB (varsB n) (madeC n l) (intL a) = true := by
      unfold provesB
      rw [hR, natL_intL, Int.toNat_natCast, ha3, rise_pair a (-1) (fun i hi => ⟨ha1 i hi, by omega⟩) ha2]
      rfl
    have hP := core_Proves.a (varsB n) (madeC n l) (intL a) (by omega) hs (by omega)
    rw [hz] at hP
    simp +contextual (disch := omega) [Nat.add_assoc, Int.add_assoc, if_pos, if_neg, -Int.not_lt, -Int.not_le, -Nat.not_lt, -Nat.not_le, -List.length_flatMap, law10_CoreProves.c, ansK (law08_Vars.a n hn), ansK (law08_Made.a n hn l hb hl), ansK hC, ansK hS, ansK hP, hal, ha0]
    refine for_w (fun i e m x => e 5 = .b true ∧ e 6 = .i .i64 (varsB n : Nat) ∧ e 7 = sV cC (madeC n l) ∧ e 8 = sV cI (intL a) ∧ e 14 = .i .i64 i) a.length ?_ ?_ ?_
    · simp +contextual (disch := omega) [Nat.add_assoc, Int.add_assoc, if_pos, if_neg, -Int.not_lt, -Int.not_le, -Nat.not_lt, -Nat.not_le, -List.length_flatMap]
    · rintro i e m x hi ⟨g5, g6, g7, g8, g14⟩
      have hL := ha4 a[i] (List.getElem_mem hi)
      have hc : intL a = intL (a.take i) ++ intL (a.drop i) := by rw [← intL_app, List.take_append_drop]
      have hq : provesB (varsB n) (madeC n l) (intL (lessL a a[i])) = false := by
        unfold provesB
        rw [natL_intL, Int.toNat_natCast, hL]
        simp
      have hP2 := core_Proves.a (varsB n) (madeC n l) (intL (lessL a a[i])) (by omega) hs (by rw [intL_len]; have := less_len a a[i]; omega)
      rw [hq] at hP2
      simp +contextual (disch := omega) [Nat.add_assoc, Int.add_assoc, if_pos, if_neg, -Int.not_lt, -Int.not_le, -Nat.not_lt, -Nat.not_le, -List.length_flatMap, law10_CoreProves.b1, g5, g6, g7, g8, g14, hi, hal, -apV_ns]
      refine (Bf.nil (f := cI) (k := 1) (lo := x) (m := m)).ap ((intL a).take i) (fun _ _ _ => rfl) (Nat.le_refl _) (by omega) rfl (by simp; omega) (by simp; omega) ?_
      intro B1 ws1 m1 p1 p2 p3 p4
      simp +contextual (disch := omega) [Nat.add_assoc, Int.add_assoc, if_pos, if_neg, -Int.not_lt, -Int.not_le, -Nat.not_lt, -Nat.not_le, -List.length_flatMap, p1, p2.stor, p2.cells, hal, g5, g6, g7, g8, g14, hi]
      refine p2.ap ((intL a).drop (i + 1)) (fun _ _ _ => rfl) (by omega) (by omega) (by rw [List.take_of_length_le (by simp; omega)]) (by simp; omega) (by simp; omega) ?_
      intro B2 ws2 m2 q1 q2 q3 q4
      have hcut : (intL a).take i ++ (intL a).drop (i + 1) = intL (lessL a a[i]) := by
        rw [← less_cut a i hi ha2, intL_app]
        unfold intL
        rw [List.map_take, List.map_drop]
      rw [List.nil_append, hcut] at q2
      simp +contextual (disch := omega) [Nat.add_assoc, Int.add_assoc, if_pos, if_neg, -Int.not_lt, -Int.not_le, -Nat.not_lt, -Nat.not_le, -List.length_flatMap, q1, q2.stor, q2.cells, g5, g6, g7, g8, g14, q2.fz24, ansK hP2]
    · rintro e m x ⟨g5, g6, g7, g8, g14⟩
      simp +contextual (disch := omega) [Nat.add_assoc, Int.add_assoc, if_pos, if_neg, -Int.not_lt, -Int.not_le, -Nat.not_lt, -Nat.not_le, -List.length_flatMap, law10_CoreProves.b1, g5, g6, g7, g8, g14, hal]
end Pi
