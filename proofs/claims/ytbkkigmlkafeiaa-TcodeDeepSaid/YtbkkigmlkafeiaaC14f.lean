/- Contracts: terms as bytes (layer 14): the document's reader. -/
import Derived.Test.YtbkkigmlkafeiaaC14d
set_option linter.unusedSimpArgs false
set_option linter.unusedVariables false
namespace Pi
set_option maxHeartbeats 2000000 in
theorem ref14_loop {e : Env} {m : Sto} {x p x0 y : Nat} {Q : X → S → Prop} (s : List Nat) (f : Nat → Nat → Nat → TR) (wi be : Nat) (bd : Int) (bl : List Nat) (a n d : Nat) (k : Int) (hwi : wi ≤ 1000) (hbe : be ≤ 1000) (hbl : bl.length ≤ 3) (hbi : ∀ i (h : i < bl.length), (bl[i] : Int) = be + if (i : Int) = bd then 1 else 0)
    (hw : ∀ (b a n : Nat) {m : Sto} {x : Nat} {K : CR → Sto → Nat → Prop}, b ∈ bl → p < x → m p = rcT s a n 0 → (∀ j, x ≤ j → m j = none) → TK (TPost (f b a n)) s p x x m d K → w ctx (envOf [.p p 0, .i .i64 ((wi : Int) + 1), .i .i64 b]) m x [] none none (RetG ctx ref14_reader_term.c.rs K) ref14_reader_term.c.code)
    (he : e 0 = .p p 0 ∧ e 1 = .i .i64 wi ∧ e 2 = .i .i64 be ∧ e 6 = .p x0 0 ∧ e 7 = .p y 0 ∧ e 8 = .i .i64 bl.length ∧ e 9 = .i .i64 bd ∧ e 12 = .i .i64 0) (hp : p < x0) (hx0 : x0 < y) (hyx : y < x) (hm : m p = rcT s a n 0) (hy : m y = some (.cells [.i .i64 k, .i .i64 0, .ns, .ns] false)) (hI : InnM p x0 m)
    (hQ : ∀ e' m' x' B vs (ai ni er : Int), (e' 6 = .p x0 0 ∧ e' 7 = .p y 0) → x ≤ x' → m' y = some (.cells [.i .i64 k, .i .i64 0, .ns, B] false) → Bn m' B cT 4 vs (y + 1) x' d → m' p = rcT s ai ni er → (∀ j, j < y → j ≠ p → m' j = m j) → InnM p x0 m' → B.inn (orNew [p] x0) = true →
      ((er = 0 ∧ ∃ a2 n2 : Nat, ai = a2 ∧ ni = n2 ∧ rdKs f bl a n = .ok vs a2 n2) ∨ (∃ q : Nat, er = q ∧ q ≠ 0 ∧ rdKs f bl a n = .bad q)) → Q (.exit 3) ⟨e', m', x', [], none, none⟩) :
    w ctx e m x [] none none Q (.loop ref14_reader_term.b2) := by
  obtain ⟨s0, s1, s2, s6, s7, s8, s9, s12⟩ := he
  refine for_w (fun i e' m' x' => ∃ B vs, ∃ (ai ni er : Int), (e' 0 = .p p 0 ∧ e' 1 = .i .i64 wi ∧ e' 2 = .i .i64 be ∧ e' 6 = .p x0 0 ∧ e' 7 = .p y 0 ∧ e' 8 = .i .i64 bl.length ∧ e' 9 = .i .i64 bd ∧ e' 12 = .i .i64 i) ∧ x ≤ x' ∧ m' y = some (.cells [.i .i64 k, .i .i64 0, .ns, B] false) ∧
      Bn m' B cT 4 vs (y + 1) x' d ∧ vs.length ≤ i ∧ m' p = rcT s ai ni er ∧ (∀ j, j < y → j ≠ p → m' j = m j) ∧ InnM p x0 m' ∧ B.inn (orNew [p] x0) = true ∧
      ((er = 0 ∧ ∃ a2 n2 : Nat, ai = a2 ∧ ni = n2 ∧ rdKs f bl a n = (rdKs f (bl.drop i) a2 n2).pre vs) ∨ (∃ q : Nat, er = q ∧ q ≠ 0 ∧ rdKs f bl a n = .bad q))) bl.length ?_ ?_ ?_
  · exact ⟨.ns, [], a, n, 0, ⟨s0, s1, s2, s6, s7, s8, s9, s12⟩, by omega, hy, Bn.nil, by simp, hm, fun j h1 h2 => rfl, hI, rfl, .inl ⟨rfl, a, n, rfl, rfl, by rw [KR.pre_nil]; rfl⟩⟩
  · rintro i e' m' x' hi ⟨B, vs, ai, ni, er, ⟨g0, g1, g2, gx, g7, g8, g9, g12⟩, k1, k3, k4, k5, k6, k7, k8, k9, k10⟩
    have k6' := k6
    unfold rcT at k6'
    rcases k10 with ⟨rfl, a2, n2, rfl, rfl, k10⟩ | ⟨q, rfl, hq, k10⟩
    · have hbii := hbi i hi
      rw [List.drop_eq_getElem_cons hi, rdKs_cons] at k10
      have hmem := List.getElem_mem hi
      generalize bl[i] = b at hbii hmem k10
      by_cases hb : (i : Int) = bd
      · rw [if_pos hb] at hbii
        subst hb
        simp +contextual (disch := omega) [Nat.add_assoc, Int.add_assoc, if_pos, if_neg, -Int.not_lt, -Int.not_le, -Nat.not_lt, -Nat.not_le, -List.length_flatMap, ref14_reader_term.b2, g0, g1, g2, gx, g7, g8, g9, g12, hi, k3, k6']
        rw [CallQ_op (by rfl)]
        refine ref14_q ref14_reader_term.f rfl rfl rfl s p d _ _ (fun {m x K} h1 h2 h3 h4 => by have := hw b a2 n2 (K := K) hmem h1 h2 h3 h4; rwa [hbii] at this) (by omega) k6 ?_
        intro cs ws ids x2 v a' n' er hP q1 q2 q3 q4 q5 q6 q7 q8 q9 q10
        have hws : ∀ (a : Nat) (b : Option PObj), (a, b) ∈ ws → ¬ a = y := fun a b h e => by
          have h1 : a ∈ ids := by rw [← q7]; exact List.mem_map.2 ⟨(a, b), h, rfl⟩
          have := q6 a h1
          omega
        simp +contextual (disch := omega) [Nat.add_assoc, Int.add_assoc, if_pos, if_neg, -Int.not_lt, -Int.not_le, -Nat.not_lt, -Nat.not_le, -List.length_flatMap]
        rw [IfK_pos ⟨hws, by omega⟩, List.take_of_length_le (by omega)]
        generalize hM2 : Sto.set (m'.app ws) x2 _ = M2
        have hj2 : ∀ j, j < x' → j ≠ p → M2 j = m' j := fun j h1 h2 => by rw [← hM2, Sto.sne _ _ _ _ (by omega), q2 j (by omega) h2]
        have hI2 : InnM p x0 M2 := by
          rw [← hM2]
          refine InnM.set (fun j hj => ?_) (fun _ => by simpa [innO] using innL_mono (orNew_up (by omega)) cs q9)
          by_cases hjx : j < x' + 24
          · rw [q2 j hjx (by omega)]; exact k8 j hj
          · by_cases hjx' : j < x2
            · exact innO_mono (orNew_up (by omega)) _ (q5 j (by omega) hjx')
            · rw [q3 j (by omega)]; exact k8 j hj
        have hp2 : M2 p = rcT s a' n' er := by rw [← hM2, Sto.sne _ _ _ _ (by omega), q4]
        refine opK_with (fun u ws => InnM p x0 (M2.app ws) ∧ u.inn (orNew [p] x0) = true) (fun u ws h => InnM.apG hI2 k4 (fun j h1 h2 => hj2 j h2 (by omega)) (by omega) (by omega) (innL_mono (orNew_up (by omega)) cs q9) h) ?_
        refine k4.ap v (fun j h1 h2 => hj2 j h2 (by omega)) (by omega) (by omega) (q10.wide (by omega) (by omega) (fun j h1 h2 => by rw [← hM2, Sto.sne _ _ _ _ (by omega)])) q8 rfl (by omega) ?_
        intro B' ws2 M3 z0 z1 z2 z3 z4
        rw [z0] at z4
        have t1 := (z2 y (by omega)).trans ((hj2 y (by omega) (by omega)).trans k3)
        simp +contextual (disch := omega) [Nat.add_assoc, Int.add_assoc, if_pos, if_neg, -Int.not_lt, -Int.not_le, -Nat.not_lt, -Nat.not_le, -List.length_flatMap, z0, t1, z1.stor, z1.cells, g0, g1, g2, gx, g7, g8, g9, g12]
        refine ⟨by omega, vs ++ [v], z1.up (by omega) (fun j h1 h2 => Sto.sne _ _ _ _ (by omega)), by simp; omega, a', n', er, ?_, fun j h1 h2 => ?_, z4.1.set (fun _ => by simp [innO, innL, V.inn, z4.2]), z4.2, ?_⟩
        · rw [z2 p (by omega), hp2]
        · rw [z2 j (by omega), hj2 j (by omega) h2, k7 j h1 h2]
        · rw [k10]
          cases hr : f b a2 n2 with
          | ok v2 a3 n3 =>
            rw [hr] at hP
            obtain ⟨rfl, rfl, rfl, rfl⟩ := hP
            exact .inl ⟨rfl, a3, rfl, n3, rfl, by rw [KR.pre_pre]⟩
          | bad q =>
            rw [hr] at hP
            exact .inr ⟨q, hP.1, hP.2, rfl⟩
      · rw [if_neg hb] at hbii
        rw [Int.add_zero] at hbii
        simp +contextual (disch := omega) [Nat.add_assoc, Int.add_assoc, if_pos, if_neg, -Int.not_lt, -Int.not_le, -Nat.not_lt, -Nat.not_le, -List.length_flatMap, ref14_reader_term.b2, g0, g1, g2, gx, g7, g8, g9, g12, hi, k3, k6', hb]
        rw [CallQ_op (by rfl)]
        refine ref14_q ref14_reader_term.f rfl rfl rfl s p d _ _ (fun {m x K} h1 h2 h3 h4 => by have := hw b a2 n2 (K := K) hmem h1 h2 h3 h4; rwa [hbii] at this) (by omega) k6 ?_
        intro cs ws ids x2 v a' n' er hP q1 q2 q3 q4 q5 q6 q7 q8 q9 q10
        have hws : ∀ (a : Nat) (b : Option PObj), (a, b) ∈ ws → ¬ a = y := fun a b h e => by
          have h1 : a ∈ ids := by rw [← q7]; exact List.mem_map.2 ⟨(a, b), h, rfl⟩
          have := q6 a h1
          omega
        simp +contextual (disch := omega) [Nat.add_assoc, Int.add_assoc, if_pos, if_neg, -Int.not_lt, -Int.not_le, -Nat.not_lt, -Nat.not_le, -List.length_flatMap]
        rw [IfK_pos ⟨hws, by omega⟩, List.take_of_length_le (by omega)]
        generalize hM2 : Sto.set (m'.app ws) x2 _ = M2
        have hj2 : ∀ j, j < x' → j ≠ p → M2 j = m' j := fun j h1 h2 => by rw [← hM2, Sto.sne _ _ _ _ (by omega), q2 j (by omega) h2]
        have hI2 : InnM p x0 M2 := by
          rw [← hM2]
          refine InnM.set (fun j hj => ?_) (fun _ => by simpa [innO] using innL_mono (orNew_up (by omega)) cs q9)
          by_cases hjx : j < x' + 21
          · rw [q2 j hjx (by omega)]; exact k8 j hj
          · by_cases hjx' : j < x2
            · exact innO_mono (orNew_up (by omega)) _ (q5 j (by omega) hjx')
            · rw [q3 j (by omega)]; exact k8 j hj
        have hp2 : M2 p = rcT s a' n' er := by rw [← hM2, Sto.sne _ _ _ _ (by omega), q4]
        refine opK_with (fun u ws => InnM p x0 (M2.app ws) ∧ u.inn (orNew [p] x0) = true) (fun u ws h => InnM.apG hI2 k4 (fun j h1 h2 => hj2 j h2 (by omega)) (by omega) (by omega) (innL_mono (orNew_up (by omega)) cs q9) h) ?_
        refine k4.ap v (fun j h1 h2 => hj2 j h2 (by omega)) (by omega) (by omega) (q10.wide (by omega) (by omega) (fun j h1 h2 => by rw [← hM2, Sto.sne _ _ _ _ (by omega)])) q8 rfl (by omega) ?_
        intro B' ws2 M3 z0 z1 z2 z3 z4
        rw [z0] at z4
        have t1 := (z2 y (by omega)).trans ((hj2 y (by omega) (by omega)).trans k3)
        simp +contextual (disch := omega) [Nat.add_assoc, Int.add_assoc, if_pos, if_neg, -Int.not_lt, -Int.not_le, -Nat.not_lt, -Nat.not_le, -List.length_flatMap, z0, t1, z1.stor, z1.cells, g0, g1, g2, gx, g7, g8, g9, g12]
        refine ⟨by omega, vs ++ [v], z1.up (by omega) (fun j h1 h2 => Sto.sne _ _ _ _ (by omega)), by simp; omega, a', n', er, ?_, fun j h1 h2 => ?_, z4.1.set (fun _ => by simp [innO, innL, V.inn, z4.2]), z4.2, ?_⟩
        · rw [z2 p (by omega), hp2]
        · rw [z2 j (by omega), hj2 j (by omega) h2, k7 j h1 h2]
        · rw [k10]
          cases hr : f b a2 n2 with
          | ok v2 a3 n3 =>
            rw [hr] at hP
            obtain ⟨rfl, rfl, rfl, rfl⟩ := hP
            exact .inl ⟨rfl, a3, rfl, n3, rfl, by rw [KR.pre_pre]⟩
          | bad q =>
            rw [hr] at hP
            exact .inr ⟨q, hP.1, hP.2, rfl⟩
    · have hq' : ¬ (q : Int) = 0 := by omega
      simp +contextual (disch := omega) [Nat.add_assoc, Int.add_assoc, if_pos, if_neg, -Int.not_lt, -Int.not_le, -Nat.not_lt, -Nat.not_le, -List.length_flatMap, ref14_reader_term.b2, g0, g1, g2, gx, g7, g8, g9, g12, hi, k3, k6', hq', hq]
      exact hQ _ _ _ B vs ai ni q (by simp +contextual (disch := omega) [Nat.add_assoc, Int.add_assoc, if_pos, if_neg, -Int.not_lt, -Int.not_le, -Nat.not_lt, -Nat.not_le, -List.length_flatMap, gx, g7]) (by omega) k3 (k4.up (by omega) (fun j h1 h2 => rfl)) k6 k7 k8 k9 (.inr ⟨q, rfl, hq, k10⟩)
  · rintro e' m' x' ⟨B, vs, ai, ni, er, ⟨g0, g1, g2, gx, g7, g8, g9, g12⟩, k1, k3, k4, k5, k6, k7, k8, k9, k10⟩
    simp +contextual (disch := omega) [Nat.add_assoc, Int.add_assoc, if_pos, if_neg, -Int.not_lt, -Int.not_le, -Nat.not_lt, -Nat.not_le, -List.length_flatMap, ref14_reader_term.b2, g0, g1, g2, gx, g7, g8, g9, g12, k3]
    refine hQ _ _ _ B vs ai ni er (by simp +contextual (disch := omega) [Nat.add_assoc, Int.add_assoc, if_pos, if_neg, -Int.not_lt, -Int.not_le, -Nat.not_lt, -Nat.not_le, -List.length_flatMap, gx, g7]) (by omega) k3 (k4.up (by omega) (fun j h1 h2 => rfl)) k6 k7 k8 k9 ?_
    rcases k10 with ⟨rfl, a2, n2, rfl, rfl, k10⟩ | h
    · refine .inl ⟨rfl, a2, n2, rfl, rfl, ?_⟩
      rw [k10, List.drop_length]
      simp [rdKs, KR.pre]
    · exact .inr h
set_option maxHeartbeats 2000000 in
theorem ref14_lloop {e : Env} {m : Sto} {x p x0 y : Nat} {Q : X → S → Prop} (s : List Nat) (hl : Byt s) (hn : s.length ≤ 10000) (a n many : Nat) (k N : Int) (hmany : many ≤ 5)
    (he : e 0 = .p p 0 ∧ e 1 = e 1 ∧ e 2 = e 2 ∧ e 6 = .p x0 0 ∧ e 7 = .p y 0 ∧ e 8 = .i .i64 0 ∧ e 10 = .i .i64 many ∧ e 11 = .i .i64 0) (hp : p < x0) (hx0 : x0 < y) (hyx : y < x) (hm : m p = rcT s a n 0) (hy : m y = some (.cells [.i .i64 k, .i .i64 N, .ns, .ns] false)) (hI : InnM p x0 m)
    (hQ : ∀ e' m' x' B vs (a' e2 : Int), (e' 0 = .p p 0 ∧ e' 6 = .p x0 0 ∧ e' 7 = .p y 0 ∧ e' 8 = .i .i64 0) → LPost (rdLs s many a) vs a' e2 → x ≤ x' → m' y = some (.cells [.i .i64 k, .i .i64 N, B, .ns] false) → Bn m' B cL 3 vs (y + 1) x' 0 → m' p = rcT s a' n e2 → (∀ j, j < y → j ≠ p → m' j = m j) → InnM p x0 m' → B.inn (orNew [p] x0) = true →
      Q (.exit 1) ⟨e', m', x', [], none, none⟩) :
    w ctx e m x [] none none Q (.loop ref14_reader_term.b1) := by
  obtain ⟨s0, s1, s2, s6, s7, s8, s10, s11⟩ := he
  refine for_w (fun i e' m' x' => ∃ B vs, ∃ (ai er : Int), (e' 0 = .p p 0 ∧ e' 6 = .p x0 0 ∧ e' 7 = .p y 0 ∧ e' 8 = .i .i64 0 ∧ e' 10 = .i .i64 many ∧ e' 11 = .i .i64 i) ∧ x ≤ x' ∧ m' y = some (.cells [.i .i64 k, .i .i64 N, B, .ns] false) ∧
      Bn m' B cL 3 vs (y + 1) x' 0 ∧ vs.length ≤ i ∧ m' p = rcT s ai n er ∧ (∀ j, j < y → j ≠ p → m' j = m j) ∧ InnM p x0 m' ∧ B.inn (orNew [p] x0) = true ∧
      ((er = 0 ∧ ∃ a2 : Nat, ai = a2 ∧ rdLs s many a = (rdLs s (many - i) a2).pre vs) ∨ (∃ q : Nat, er = q ∧ q ≠ 0 ∧ rdLs s many a = .bad q))) many ?_ ?_ ?_
  · exact ⟨.ns, [], a, 0, ⟨s0, s6, s7, s8, s10, s11⟩, by omega, hy, Bn.nil, by simp, hm, fun j h1 h2 => rfl, hI, rfl, .inl ⟨rfl, a, rfl, by rw [LR.pre_nil]; rfl⟩⟩
  · rintro i e' m' x' hi ⟨B, vs, ai, er, ⟨g0, g6, g7, g8, g10, g11⟩, k1, k3, k4, k5, k6, k7, k8, k9, k10⟩
    have k6' := k6
    unfold rcT at k6'
    rcases k10 with ⟨rfl, a2, rfl, k10⟩ | ⟨q, rfl, hq, k10⟩
    · rw [show many - i = (many - (i + 1)) + 1 by omega, rdLs_succ] at k10
      simp +contextual (disch := omega) [Nat.add_assoc, Int.add_assoc, if_pos, if_neg, -Int.not_lt, -Int.not_le, -Nat.not_lt, -Nat.not_le, -List.length_flatMap, ref14_reader_term.b1, g0, g6, g7, g8, g10, g11, hi, k3, k6']
      rw [CallQ_op (by rfl)]
      refine lev_q s hl hn p a2 n (by omega) k6 ?_
      intro v ws ids x2 a' er hP q1 q2 q3 q4 q5 q6 q7
      have hws : ∀ (a : Nat) (b : Option PObj), (a, b) ∈ ws → ¬ a = y := fun a b h e => by
        have h1 : a ∈ ids := by rw [← q7]; exact List.mem_map.2 ⟨(a, b), h, rfl⟩
        have := q6 a h1
        omega
      simp +contextual (disch := omega) [Nat.add_assoc, Int.add_assoc, if_pos, if_neg, -Int.not_lt, -Int.not_le, -Nat.not_lt, -Nat.not_le, -List.length_flatMap]
      rw [IfK_pos ⟨hws, by omega⟩]
      generalize hM2 : Sto.set (m'.app ws) x2 _ = M2
      have hj2 : ∀ j, j < x' → j ≠ p → M2 j = m' j := fun j h1 h2 => by rw [← hM2, Sto.sne _ _ _ _ (by omega), q2 j (by omega) h2]
      have hp2 : M2 p = rcT s a' n er := by rw [← hM2, Sto.sne _ _ _ _ (by omega), q4]
      have hI2 : InnM p x0 M2 := by
        rw [← hM2]
        refine InnM.set (fun j hj => ?_) (fun _ => by simpa [innO] using innL_cL _ v)
        by_cases hjx : j < x' + 13
        · rw [q2 j hjx (by omega)]; exact k8 j hj
        · by_cases hjx' : j < x2
          · exact innO_mono (orNew_up (by omega)) _ (q5 j (by omega) hjx')
          · rw [q3 j (by omega)]; exact k8 j hj
      refine opK_with (fun u ws => InnM p x0 (M2.app ws) ∧ u.inn (orNew [p] x0) = true) (fun u ws h => InnM.apG hI2 k4 (fun j h1 h2 => hj2 j h2 (by omega)) (by omega) (by omega) (innL_cL _ v) h) ?_
      refine k4.ap v (fun j h1 h2 => hj2 j h2 (by omega)) (by omega) (by omega) (FzAt.self (fun D => cL_fz v D)) (cL_len v) rfl (by omega) ?_
      intro B' ws2 M3 z0 z1 z2 z3 z4
      rw [z0] at z4
      have t1 := (z2 y (by omega)).trans ((hj2 y (by omega) (by omega)).trans k3)
      simp +contextual (disch := omega) [Nat.add_assoc, Int.add_assoc, if_pos, if_neg, -Int.not_lt, -Int.not_le, -Nat.not_lt, -Nat.not_le, -List.length_flatMap, z0, t1, z1.stor, z1.cells, g0, g6, g7, g8, g10, g11]
      refine ⟨by omega, vs ++ [v], z1.up (by omega) (fun j h1 h2 => Sto.sne _ _ _ _ (by omega)), by simp; omega, a', er, ?_, fun j h1 h2 => ?_, z4.1.set (fun _ => by simp [innO, innL, V.inn, z4.2]), z4.2, ?_⟩
      · rw [z2 p (by omega), hp2]
      · rw [z2 j (by omega), hj2 j (by omega) h2, k7 j h1 h2]
      · rw [k10]
        cases hr : lvR s a2 with
        | ok v2 a3 n3 =>
          rw [hr] at hP
          obtain ⟨rfl, rfl, rfl⟩ := hP
          exact .inl ⟨rfl, a3, rfl, by rw [LR.pre_pre]⟩
        | bad q =>
          rw [hr] at hP
          exact .inr ⟨q, hP.1, hP.2, rfl⟩
    · have hq' : ¬ (q : Int) = 0 := by omega
      simp +contextual (disch := omega) [Nat.add_assoc, Int.add_assoc, if_pos, if_neg, -Int.not_lt, -Int.not_le, -Nat.not_lt, -Nat.not_le, -List.length_flatMap, ref14_reader_term.b1, g0, g6, g7, g8, g10, g11, hi, k3, k6', hq', hq]
      exact hQ _ _ _ B vs ai q (by simp +contextual (disch := omega) [Nat.add_assoc, Int.add_assoc, if_pos, if_neg, -Int.not_lt, -Int.not_le, -Nat.not_lt, -Nat.not_le, -List.length_flatMap, g0, g6, g7, g8]) (by rw [k10]; exact ⟨rfl, hq⟩) (by omega) k3 (k4.up (by omega) (fun j h1 h2 => rfl)) k6 k7 k8 k9
  · rintro e' m' x' ⟨B, vs, ai, er, ⟨g0, g6, g7, g8, g10, g11⟩, k1, k3, k4, k5, k6, k7, k8, k9, k10⟩
    simp +contextual (disch := omega) [Nat.add_assoc, Int.add_assoc, if_pos, if_neg, -Int.not_lt, -Int.not_le, -Nat.not_lt, -Nat.not_le, -List.length_flatMap, ref14_reader_term.b1, g0, g6, g7, g8, g10, g11, k3]
    refine hQ _ _ _ B vs ai er (by simp +contextual (disch := omega) [Nat.add_assoc, Int.add_assoc, if_pos, if_neg, -Int.not_lt, -Int.not_le, -Nat.not_lt, -Nat.not_le, -List.length_flatMap, g0, g6, g7, g8]) ?_ (by omega) k3 (k4.up (by omega) (fun j h1 h2 => rfl)) k6 k7 k8 k9
    rcases k10 with ⟨rfl, a2, rfl, k10⟩ | ⟨q, rfl, hq, k10⟩
    · rw [k10, Nat.sub_self]
      simp [rdLs, LR.pre, LPost]
    · rw [k10]; exact ⟨rfl, hq⟩
theorem Bn.one {m : Sto} {a lo x : Nat} {v : L} (h : m a = some (.cells (cL v) false)) (h1 : lo ≤ a) (h2 : a < x) : Bn m (.ms a 0 1 3) cL 3 [v] lo x 0 :=
  .inr ⟨a, cL v, rfl, h, ⟨by simp, by simpa using (FzAt.self (m := m) (lo := x) (x := x) (fun D => cL_fz v D)).x (by omega) (Nat.le_refl _) (.inl h2)⟩, h1, h2⟩
set_option maxHeartbeats 8000000 in
theorem ref14_reader_term.w (s : List Nat) (hl : Byt s) (hn : s.length ≤ 10000) (p : Nat) : ∀ (d : Nat), d ≤ 30 → ∀ (be a n : Nat) {m : Sto} {x : Nat} {K : CR → Sto → Nat → Prop}, be + d ≤ 30 → p < x → m p = rcT s a n 0 → (∀ j, x ≤ j → m j = none) →
    TK (TPost (rdT s d be a n)) s p x x m (d + 1) K →
    Pi.w ctx (envOf [.p p 0, .i .i64 ((30 : Int) - d), .i .i64 be]) m x [] none none (RetG ctx ref14_reader_term.c.rs K) ref14_reader_term.c.code := by
  intro d
  induction d with
  | zero =>
    intro hd be a n m x K hbd hp hm hN hK
    have hm' := hm
    unfold rcT at hm'
    simp +contextual (disch := omega) [Nat.add_assoc, Int.add_assoc, if_pos, if_neg, -Int.not_lt, -Int.not_le, -Nat.not_lt, -Nat.not_le, -List.length_flatMap, ref14_reader_term.c, hm']
    refine hK _ _ _ (.mk 0 0 [] []) a n 2 ⟨rfl, by omega⟩ (by omega) (fun j q1 q2 => ?_) ?_ ((((InnM.none hN).set (fun _ => rfl)).set (fun h => by omega)).set (fun _ => rfl)) rfl rfl (FzT Bn.nil FzN (by omega))
    · rw [Sto.sne _ _ _ _ (by omega), Sto.sne _ _ _ _ q2, Sto.sne _ _ _ _ (by omega)]
    · rw [Sto.sne _ _ _ _ (by omega), Sto.seq]; rfl
  | succ d ih =>
    intro hd be a n m x K hbd hp hm hN hK
    have hfn : ctx.frz ref14_reader_number.n = false := rfl
    have hwi : ((30 : Int) - (d + 1 : Nat)) = ((29 - d : Nat) : Int) := by omega
    rw [hwi]
    have h30 : ¬ (30 : Int) ≤ ((29 - d : Nat) : Int) := by omega
    have hwi2 : (((29 - d : Nat) : Int) + 1) = (30 : Int) - d := by omega
    have hwi3 : 29 - d ≤ 1000 := by omega
    generalize 29 - d = wi at *
    have hm' := hm
    unfold rcT at hm'
    unfold rdT at hK
    by_cases h6 : 600 ≤ n
    · rw [if_pos h6] at hK
      have h6' : (600 : Int) ≤ n := by omega
      simp +contextual (disch := omega) [Nat.add_assoc, Int.add_assoc, if_pos, if_neg, -Int.not_lt, -Int.not_le, -Nat.not_lt, -Nat.not_le, -List.length_flatMap, ref14_reader_term.c, hm', h30, h6']
      refine hK _ _ _ (.mk 0 0 [] []) a n 2 ⟨rfl, by omega⟩ (by omega) (fun j q1 q2 => ?_) ?_ ((((InnM.none hN).set (fun _ => rfl)).set (fun h => by omega)).set (fun _ => rfl)) rfl rfl (FzT Bn.nil FzN (by omega))
      · rw [Sto.sne _ _ _ _ (by omega), Sto.sne _ _ _ _ q2, Sto.sne _ _ _ _ (by omega)]
      · rw [Sto.sne _ _ _ _ (by omega), Sto.seq]; rfl
    rw [if_neg h6] at hK
    have h6' : ¬ (600 : Int) ≤ n := by omega
    simp +contextual (disch := omega) [Nat.add_assoc, Int.add_assoc, if_pos, if_neg, -Int.not_lt, -Int.not_le, -Nat.not_lt, -Nat.not_le, -List.length_flatMap, ref14_reader_term.c, hm', h30, h6']
    rw [CallX_op (by rfl)]
    refine openg_w rfl rfl (.inl rfl) ?_
    rw [hfn]
    generalize hM : Sto.set _ p _ = M
    have hMj : ∀ j, j < x → j ≠ p → M j = m j := fun j hj hjp => by rw [← hM, Sto.sne _ _ _ _ hjp, Sto.sne _ _ _ _ (by omega)]
    have hM0 : M x = some (.cells [.i .i64 0, .i .i64 0, .ns, .ns] false) := by rw [← hM, Sto.sne _ _ _ _ (by omega), Sto.seq]
    have hMp : M p = rcT s a (n + 1 : Nat) 0 := by rw [← hM, Sto.seq]; rfl
    have hMI : InnM p x M := by rw [← hM]; exact ((InnM.none hN).set (fun _ => rfl)).set (fun h => by omega)
    clear hM
    refine ref14_reader_number.w s hl hn a (n + 1) 1099511627777 hMp ?_
    intro m2 x2 k1 k2 k3
    have t0 := (k2 x (by omega)).trans hM0
    have hI2 := hMI.of hp k2
    have hj2 : ∀ j, j < x → j ≠ p → m2 j = m j := fun j q1 q2 => by rw [k2 j q2, hMj j q1 q2]
    have hbad := numT_bad (s := s) (a := a) (most := 1099511627777)
    generalize numT s a 1099511627777 = r at hK k3 hbad ⊢
    obtain ⟨k, a1, e1⟩ := r
    simp only at hK k3 hbad ⊢
    have k3' := k3
    unfold rcT at k3'
    by_cases he : e1 ≠ 0
    · rw [if_pos he] at hK
      have hk0 := hbad he
      subst hk0
      simp +contextual (disch := omega) [Nat.add_assoc, Int.add_assoc, if_pos, if_neg, -Int.not_lt, -Int.not_le, -Nat.not_lt, -Nat.not_le, -List.length_flatMap, k3', he]
      refine un_w ?_
      simp +contextual (disch := omega) [Nat.add_assoc, Int.add_assoc, if_pos, if_neg, -Int.not_lt, -Int.not_le, -Nat.not_lt, -Nat.not_le, -List.length_flatMap, ref14_reader_term.b2, k3', he, t0]
      refine hK _ _ _ (.mk 0 0 [] []) a1 (n + 1 : Nat) e1 ⟨rfl, he⟩ (by omega) (fun j w1 w2 => ?_) ?_ (((hI2.set (fun _ => rfl)).set (fun _ => rfl)).set (fun _ => rfl)) rfl rfl (FzT Bn.nil FzN (by omega))
      · rw [Sto.sne _ _ _ _ (by omega), Sto.sne _ _ _ _ (by omega), Sto.sne _ _ _ _ (by omega), hj2 j w1 w2]
      · rw [Sto.sne _ _ _ _ (by omega), Sto.sne _ _ _ _ (by omega), Sto.sne _ _ _ _ (by omega), k3]
    have he0 : e1 = 0 := by omega
    subst he0
    rw [if_neg (by omega)] at hK
    have hTW : ∀ bl : List Nat, (∀ b ∈ bl, b + d ≤ 30) → ∀ (b a n : Nat) {m : Sto} {x : Nat} {K : CR → Sto → Nat → Prop}, b ∈ bl → p < x → m p = rcT s a n 0 → (∀ j, x ≤ j → m j = none) → TK (TPost (rdT s d b a n)) s p x x m (d + 1) K → Pi.w ctx (envOf [.p p 0, .i .i64 ((wi : Int) + 1), .i .i64 b]) m x [] none none (RetG ctx ref14_reader_term.c.rs K) ref14_reader_term.c.code := by
      intro bl hb b a n m x K hmem h1 h2 h3 h4
      rw [hwi2]
      exact ih (by omega) b a n (hb b hmem) h1 h2 h3 h4
    have hk : k = 1 ∨ k = 2 ∨ k = 3 ∨ k = 4 ∨ k = 5 ∨ k = 6 ∨ k = 7 ∨ (k ≠ 1 ∧ k ≠ 2 ∧ k ≠ 3 ∧ k ≠ 4 ∧ k ≠ 5 ∧ k ≠ 6 ∧ k ≠ 7) := by omega
    rcases hk with rfl | rfl | rfl | rfl | rfl | rfl | rfl | ⟨n1, n2, n3, n4, n5, n6, n7⟩
    · simp +contextual (disch := omega) [Nat.add_assoc, Int.add_assoc, if_pos, if_neg, -Int.not_lt, -Int.not_le, -Nat.not_lt, -Nat.not_le, -List.length_flatMap, k3']
      generalize hM4 : Sto.set (Sto.set m2 (x2 + 1) _) (x2 + 1) _ = M4
      have hM4j : ∀ j, j ≠ x2 + 1 → M4 j = m2 j := fun j hj => by rw [← hM4, Sto.sne _ _ _ _ hj, Sto.sne _ _ _ _ hj]
      have hM4y : M4 (x2 + 1) = some (.cells [.i .i64 1, .i .i64 0, .ns, .ns] false) := by rw [← hM4, Sto.seq]
      have hM4I : InnM p x M4 := by rw [← hM4]; exact (hI2.set (fun _ => rfl)).set (fun _ => rfl)
      have hM4p := (hM4j p (by omega)).trans k3
      have hM40 := (hM4j x (by omega)).trans t0
      clear hM4
      rw [CallX_op (by rfl)]
      refine openg_w rfl rfl (.inl rfl) ?_
      rw [hfn]
      refine ref14_reader_number.w s hl hn a1 (n + 1) (1000 + be) hM4p ?_
      intro m6 x6 q1 q2 q3
      have t6 := (q2 (x2 + 1) (by omega)).trans hM4y
      have t60 := (q2 x (by omega)).trans hM40
      have hI6 := hM4I.of hp q2
      unfold partT at hK
      rw [if_pos rfl] at hK
      generalize numT s a1 (1000 + be) = r2 at hK q3 ⊢
      obtain ⟨N, a2, e2⟩ := r2
      simp only at hK q3 ⊢
      simp +contextual (disch := omega) [Nat.add_assoc, Int.add_assoc, if_pos, if_neg, -Int.not_lt, -Int.not_le, -Nat.not_lt, -Nat.not_le, -List.length_flatMap, t6]
      refine un_w ?_
      simp +contextual (disch := omega) [Nat.add_assoc, Int.add_assoc, if_pos, if_neg, -Int.not_lt, -Int.not_le, -Nat.not_lt, -Nat.not_le, -List.length_flatMap, ref14_reader_term.b2, t60]
      refine hK _ _ _ (.mk 1 N [] []) a2 (n + 1 : Nat) e2 ?_ (by omega) (fun j w1 w2 => ?_) ?_ ((hI6.set (fun _ => rfl)).set (fun _ => rfl)) rfl rfl (FzT Bn.nil FzN (by omega))
      · split
        · rename_i h; exact ⟨rfl, h⟩
        · rename_i h; exact ⟨rfl, rfl, rfl, by omega⟩
      · rw [Sto.sne _ _ _ _ (by omega), Sto.sne _ _ _ _ (by omega), q2 j w2, hM4j j (by omega), hj2 j w1 w2]
      · rw [Sto.sne _ _ _ _ (by omega), Sto.sne _ _ _ _ (by omega), q3]
    · simp +contextual (disch := omega) [Nat.add_assoc, Int.add_assoc, if_pos, if_neg, -Int.not_lt, -Int.not_le, -Nat.not_lt, -Nat.not_le, -List.length_flatMap, k3']
      generalize hM4 : Sto.set (Sto.set m2 (x2 + 1) _) (x2 + 1) _ = M4
      have hM4j : ∀ j, j ≠ x2 + 1 → M4 j = m2 j := fun j hj => by rw [← hM4, Sto.sne _ _ _ _ hj, Sto.sne _ _ _ _ hj]
      have hM4y : M4 (x2 + 1) = some (.cells [.i .i64 2, .i .i64 0, .ns, .ns] false) := by rw [← hM4, Sto.seq]
      have hM4I : InnM p x M4 := by rw [← hM4]; exact (hI2.set (fun _ => rfl)).set (fun _ => rfl)
      have hM4p := (hM4j p (by omega)).trans k3
      have hM40 := (hM4j x (by omega)).trans t0
      clear hM4
      rw [CallX_op (by rfl)]
      refine openg_w rfl rfl (.inl rfl) ?_
      rw [show ctx.frz ref14_reader_level.n = false from rfl]
      refine ref14_reader_level.w (x0 := x) s hl hn a1 (n + 1 : Nat) hp (by omega) hM4p hM4I ?_
      intro m6 x6 v a' e' hP q1 q2 q3 q4
      have t6 := (q2 (x2 + 1) (by omega) (by omega)).trans hM4y
      have t60 := (q2 x (by omega) (by omega)).trans hM40
      unfold partT at hK
      rw [if_neg (by omega), if_pos rfl] at hK
      simp +contextual (disch := omega) [Nat.add_assoc, Int.add_assoc, if_pos, if_neg, -Int.not_lt, -Int.not_le, -Nat.not_lt, -Nat.not_le, -List.length_flatMap, t6]
      refine un_w ?_
      simp +contextual (disch := omega) [Nat.add_assoc, Int.add_assoc, if_pos, if_neg, -Int.not_lt, -Int.not_le, -Nat.not_lt, -Nat.not_le, -List.length_flatMap, ref14_reader_term.b2, t60]
      refine hK _ _ _ (.mk 2 0 [v] []) a' (n + 1 : Nat) e' ?_ (by omega) (fun j w1 w2 => ?_) ?_ ?_ rfl ?_ ?_
      · unfold rdLs
        cases hr : lvR s a1 with
        | ok v2 a5 n5 => rw [hr] at hP; obtain ⟨rfl, rfl, rfl⟩ := hP; exact ⟨rfl, rfl, rfl, rfl⟩
        | bad e => rw [hr] at hP; exact hP
      · rw [Sto.sne _ _ _ _ (by omega), Sto.sne _ _ _ _ (by omega), Sto.sne _ _ _ _ (by omega), q2 j (by omega) w2, hM4j j (by omega), hj2 j w1 w2]
      · rw [Sto.sne _ _ _ _ (by omega), Sto.sne _ _ _ _ (by omega), Sto.sne _ _ _ _ (by omega), q3]
      · exact ((q4.set (fun _ => by simpa [innO] using innL_cL _ v)).set (fun _ => by simp [innO, innL, V.inn, orNew]; omega)).set (fun _ => by simp [innO, innL, V.inn, orNew]; omega)
      · simp [innL, V.inn, orNew]; omega
      · refine FzT (Bn.one ?_ (by omega) (by omega)) FzN (by omega)
        rw [Sto.sne _ _ _ _ (by omega), Sto.sne _ _ _ _ (by omega), Sto.seq]
    · simp +contextual (disch := omega) [Nat.add_assoc, Int.add_assoc, if_pos, if_neg, -Int.not_lt, -Int.not_le, -Nat.not_lt, -Nat.not_le, -List.length_flatMap, k3']
      generalize hM4 : Sto.set (Sto.set m2 (x2 + 1) _) (x2 + 1) _ = M4
      have hM4j : ∀ j, j ≠ x2 + 1 → M4 j = m2 j := fun j hj => by rw [← hM4, Sto.sne _ _ _ _ hj, Sto.sne _ _ _ _ hj]
      have hM4y : M4 (x2 + 1) = some (.cells [.i .i64 3, .i .i64 0, .ns, .ns] false) := by rw [← hM4, Sto.seq]
      have hM4I : InnM p x M4 := by rw [← hM4]; exact (hI2.set (fun _ => rfl)).set (fun _ => rfl)
      have hM4p := (hM4j p (by omega)).trans k3
      have hM40 := (hM4j x (by omega)).trans t0
      clear hM4
      rw [CallX_op (by rfl)]
      refine openg_w rfl rfl (.inl rfl) ?_
      rw [hfn]
      refine ref14_reader_number.w s hl hn a1 (n + 1) 20 hM4p ?_
      intro m6 x6 q1 q2 q3
      have t6 := (q2 (x2 + 1) (by omega)).trans hM4y
      have t60 := (q2 x (by omega)).trans hM40
      have hI6 := hM4I.of hp q2
      unfold partT at hK
      rw [if_neg (by omega), if_neg (by omega), if_pos rfl] at hK
      generalize numT s a1 20 = r2 at hK q3 ⊢
      obtain ⟨N, a2, e2⟩ := r2
      simp only at hK q3 ⊢
      have hj6 : ∀ j, j < x → j ≠ p → m6 j = m j := fun j w1 w2 => by rw [q2 j w2, hM4j j (by omega), hj2 j w1 w2]
      simp +contextual (disch := omega) [Nat.add_assoc, Int.add_assoc, if_pos, if_neg, -Int.not_lt, -Int.not_le, -Nat.not_lt, -Nat.not_le, -List.length_flatMap, t6]
      generalize hM7 : Sto.set m6 (x2 + 1) _ = M7
      have hM7j : ∀ j, j ≠ x2 + 1 → M7 j = m6 j := fun j hj => by rw [← hM7, Sto.sne _ _ _ _ hj]
      have hM7y : M7 (x2 + 1) = some (.cells [.i .i64 3, .i .i64 N, .ns, .ns] false) := by rw [← hM7, Sto.seq]
      have hM7I : InnM p x M7 := by rw [← hM7]; exact hI6.set (fun _ => rfl)
      have hM7p := (hM7j p (by omega)).trans q3
      have hM70 := (hM7j x (by omega)).trans t60
      clear hM7
      rw [CallX_op (by rfl)]
      refine openg_w rfl rfl (.inl rfl) ?_
      rw [hfn]
      have he2 : e2 = 0 ∨ e2 ≠ 0 := by omega
      rcases he2 with rfl | he2
      · rw [if_neg (by omega)] at hK
        refine ref14_reader_number.w s hl hn a2 (n + 1) 6 hM7p ?_
        intro m8 x8 p1 p2 p3
        have t8 := (p2 (x2 + 1) (by omega)).trans hM7y
        have t80 := (p2 x (by omega)).trans hM70
        have hI8 := hM7I.of hp p2
        have hj8 : ∀ j, j < x → j ≠ p → m8 j = m j := fun j w1 w2 => by rw [p2 j w2, hM7j j (by omega), hj6 j w1 w2]
        have hlt := numT_lt (s := s) (a := a2) (most := 6)
        have hbad3 := numT_bad (s := s) (a := a2) (most := 6)
        generalize numT s a2 6 = r3 at hK p3 hlt hbad3 ⊢
        obtain ⟨M, a3, e3⟩ := r3
        simp only at hK p3 hlt hbad3 ⊢
        have he3 : e3 = 0 ∨ e3 ≠ 0 := by omega
        rcases he3 with rfl | he3
        · rw [if_neg (by omega)] at hK
          have hM5 := hlt rfl
          simp +contextual (disch := omega) [Nat.add_assoc, Int.add_assoc, if_pos, if_neg, -Int.not_lt, -Int.not_le, -Nat.not_lt, -Nat.not_le, -List.length_flatMap]
          refine ref14_lloop (x0 := x) (y := x2 + 1) s hl hn a3 (n + 1) M 3 N (by omega) (by simp +contextual (disch := omega) [Nat.add_assoc, Int.add_assoc, if_pos, if_neg, -Int.not_lt, -Int.not_le, -Nat.not_lt, -Nat.not_le, -List.length_flatMap]) hp (by omega) (by omega) p3 t8 hI8 ?_
          intro e' m9 x9 B vs a' e4 ⟨g0, g6, g7, g8⟩ hP w1 w3 w4 w5 w6 w7 w8
          have t90 := (w6 x (by omega) (by omega)).trans t80
          have w5' := w5
          unfold rcT at w5'
          simp +contextual (disch := omega) [Nat.add_assoc, Int.add_assoc, if_pos, if_neg, -Int.not_lt, -Int.not_le, -Nat.not_lt, -Nat.not_le, -List.length_flatMap, g0, g6, g7, g8]
          refine un_w ?_
          simp +contextual (disch := omega) [Nat.add_assoc, Int.add_assoc, if_pos, if_neg, -Int.not_lt, -Int.not_le, -Nat.not_lt, -Nat.not_le, -List.length_flatMap, ref14_reader_term.b2, g0, g6, g7, g8, w3, t90, w5']
          refine hK _ _ _ (.mk 3 N vs []) a' (n + 1 : Nat) e4 ?_ (by omega) (fun j r1 r2 => ?_) ?_ (w7.set (fun _ => by simp [innO, innL, V.inn, w8])) rfl (by simp [innL, V.inn, w8]) ?_
          · cases hr : rdLs s M a3 with
            | ok ls a5 => rw [hr] at hP; obtain ⟨rfl, rfl, rfl⟩ := hP; exact ⟨rfl, rfl, rfl, rfl⟩
            | bad e => rw [hr] at hP; exact hP
          · rw [Sto.sne _ _ _ _ (by omega), w6 j (by omega) r2, hj8 j r1 r2]
          · rw [Sto.sne _ _ _ _ (by omega), w5]
          · generalize hM10 : Sto.set _ x _ = M10
            refine (FzT (d := d + 1 + 1) (w4.up (m' := M10) (Nat.le_refl _) (fun j r1 r2 => ?_)) FzN (by omega)).wide (by omega) (by omega) (fun j r1 r2 => rfl)
            rw [← hM10, Sto.sne _ _ _ _ (by omega)]
        · rw [if_pos he3] at hK
          have hM0 := hbad3 he3
          subst hM0
          have p3' := p3
          unfold rcT at p3'
          simp +contextual (disch := omega) [Nat.add_assoc, Int.add_assoc, if_pos, if_neg, -Int.not_lt, -Int.not_le, -Nat.not_lt, -Nat.not_le, -List.length_flatMap]
          refine un_w ?_
          simp +contextual (disch := omega) [Nat.add_assoc, Int.add_assoc, if_pos, if_neg, -Int.not_lt, -Int.not_le, -Nat.not_lt, -Nat.not_le, -List.length_flatMap, ref14_reader_term.b1, p3', he3]
          refine un_w ?_
          simp +contextual (disch := omega) [Nat.add_assoc, Int.add_assoc, if_pos, if_neg, -Int.not_lt, -Int.not_le, -Nat.not_lt, -Nat.not_le, -List.length_flatMap, ref14_reader_term.b2, t8, t80, p3', he3]
          refine hK _ _ _ (.mk 3 N [] []) a3 (n + 1 : Nat) e3 ⟨rfl, he3⟩ (by omega) (fun j r1 r2 => ?_) ?_ (hI8.set (fun _ => rfl)) rfl rfl (FzT Bn.nil FzN (by omega))
          · rw [Sto.sne _ _ _ _ (by omega), hj8 j r1 r2]
          · rw [Sto.sne _ _ _ _ (by omega), p3]
      · rw [if_pos he2] at hK
        refine ref14_reader_number.e s a2 (n + 1 : Nat) e2 6 (by omega) hM7p ?_
        intro x8 p1
        have p3' := hM7p
        unfold rcT at p3'
        simp +contextual (disch := omega) [Nat.add_assoc, Int.add_assoc, if_pos, if_neg, -Int.not_lt, -Int.not_le, -Nat.not_lt, -Nat.not_le, -List.length_flatMap]
        refine un_w ?_
        simp +contextual (disch := omega) [Nat.add_assoc, Int.add_assoc, if_pos, if_neg, -Int.not_lt, -Int.not_le, -Nat.not_lt, -Nat.not_le, -List.length_flatMap, ref14_reader_term.b1, p3', he2]
        refine un_w ?_
        simp +contextual (disch := omega) [Nat.add_assoc, Int.add_assoc, if_pos, if_neg, -Int.not_lt, -Int.not_le, -Nat.not_lt, -Nat.not_le, -List.length_flatMap, ref14_reader_term.b2, hM7y, hM70, p3', he2]
        refine hK _ _ _ (.mk 3 N [] []) a2 (n + 1 : Nat) e2 ⟨rfl, he2⟩ (by omega) (fun j r1 r2 => ?_) ?_ (hM7I.set (fun _ => rfl)) rfl rfl (FzT Bn.nil FzN (by omega))
        · rw [Sto.sne _ _ _ _ (by omega), hM7j j (by omega), hj6 j r1 r2]
        · rw [Sto.sne _ _ _ _ (by omega), hM7p]
    · simp +contextual (disch := omega) [Nat.add_assoc, Int.add_assoc, if_pos, if_neg, -Int.not_lt, -Int.not_le, -Nat.not_lt, -Nat.not_le, -List.length_flatMap, k3']
      generalize hM4 : Sto.set (Sto.set m2 (x2 + 1) _) (x2 + 1) _ = M4
      have hM4j : ∀ j, j ≠ x2 + 1 → M4 j = m2 j := fun j hj => by rw [← hM4, Sto.sne _ _ _ _ hj, Sto.sne _ _ _ _ hj]
      have hM4y : M4 (x2 + 1) = some (.cells [.i .i64 4, .i .i64 0, .ns, .ns] false) := by rw [← hM4, Sto.seq]
      have hM4I : InnM p x M4 := by rw [← hM4]; exact (hI2.set (fun _ => rfl)).set (fun _ => rfl)
      have hM4p := (hM4j p (by omega)).trans k3
      have hM40 := (hM4j x (by omega)).trans t0
      clear hM4
      refine ref14_loop (x0 := x) (y := x2 + 1) s (rdT s d) wi be (-1) [be, be] a1 (n + 1) (d + 1) 4 hwi3 (by omega) (by simp) (fun i h => ?_) (hTW _ (by simp; omega)) (by simp +contextual (disch := omega) [Nat.add_assoc, Int.add_assoc, if_pos, if_neg, -Int.not_lt, -Int.not_le, -Nat.not_lt, -Nat.not_le, -List.length_flatMap]) hp (by omega) (by omega) hM4p hM4y hM4I ?_
      · have : i = 0 ∨ i = 1 := by simp at h; omega
        rcases this with rfl | rfl <;> simp
      intro e' m6 x6 B vs ai ni er ⟨g6, g7⟩ q1 q3 q4 q5 q6 q7 q8 q9
      have t60 := (q6 x (by omega) (by omega)).trans hM40
      simp +contextual (disch := omega) [Nat.add_assoc, Int.add_assoc, if_pos, if_neg, -Int.not_lt, -Int.not_le, -Nat.not_lt, -Nat.not_le, -List.length_flatMap, g6, g7, q3, t60]
      refine hK _ _ _ (.mk 4 0 [] vs) ai ni er ?_ (by omega) (fun j w1 w2 => ?_) ?_ (q7.set (fun _ => by simp [innO, innL, V.inn, q8])) rfl (by simp [innL, V.inn, q8]) ?_
      · rw [show partT s (rdT s d) 4 be a1 (n + 1) = (rdKs (rdT s d) [be, be] a1 (n + 1)).tm 4 from rfl]
        rcases q9 with ⟨rfl, a2, n2, rfl, rfl, h⟩ | ⟨q, rfl, hq, h⟩
        · rw [h]; exact ⟨rfl, rfl, rfl, rfl⟩
        · rw [h]; exact ⟨rfl, hq⟩
      · rw [Sto.sne _ _ _ _ (by omega), q6 j (by omega) w2, hM4j j (by omega), hj2 j w1 w2]
      · rw [Sto.sne _ _ _ _ (by omega), q5]
      · generalize hM10 : Sto.set _ x _ = M10
        refine (FzT (d := d + 1 + 1) Bn.nil ((q4.up (m' := M10) (Nat.le_refl _) (fun j r1 r2 => ?_)).at) (by omega)).wide (by omega) (by omega) (fun j r1 r2 => rfl)
        rw [← hM10, Sto.sne _ _ _ _ (by omega)]
    · simp +contextual (disch := omega) [Nat.add_assoc, Int.add_assoc, if_pos, if_neg, -Int.not_lt, -Int.not_le, -Nat.not_lt, -Nat.not_le, -List.length_flatMap, k3']
      generalize hM4 : Sto.set (Sto.set m2 (x2 + 1) _) (x2 + 1) _ = M4
      have hM4j : ∀ j, j ≠ x2 + 1 → M4 j = m2 j := fun j hj => by rw [← hM4, Sto.sne _ _ _ _ hj, Sto.sne _ _ _ _ hj]
      have hM4y : M4 (x2 + 1) = some (.cells [.i .i64 5, .i .i64 0, .ns, .ns] false) := by rw [← hM4, Sto.seq]
      have hM4I : InnM p x M4 := by rw [← hM4]; exact (hI2.set (fun _ => rfl)).set (fun _ => rfl)
      have hM4p := (hM4j p (by omega)).trans k3
      have hM40 := (hM4j x (by omega)).trans t0
      clear hM4
      refine ref14_loop (x0 := x) (y := x2 + 1) s (rdT s d) wi be (1) [be, be + 1] a1 (n + 1) (d + 1) 5 hwi3 (by omega) (by simp) (fun i h => ?_) (hTW _ (by simp; omega)) (by simp +contextual (disch := omega) [Nat.add_assoc, Int.add_assoc, if_pos, if_neg, -Int.not_lt, -Int.not_le, -Nat.not_lt, -Nat.not_le, -List.length_flatMap]) hp (by omega) (by omega) hM4p hM4y hM4I ?_
      · have : i = 0 ∨ i = 1 := by simp at h; omega
        rcases this with rfl | rfl <;> simp
      intro e' m6 x6 B vs ai ni er ⟨g6, g7⟩ q1 q3 q4 q5 q6 q7 q8 q9
      have t60 := (q6 x (by omega) (by omega)).trans hM40
      simp +contextual (disch := omega) [Nat.add_assoc, Int.add_assoc, if_pos, if_neg, -Int.not_lt, -Int.not_le, -Nat.not_lt, -Nat.not_le, -List.length_flatMap, g6, g7, q3, t60]
      refine hK _ _ _ (.mk 5 0 [] vs) ai ni er ?_ (by omega) (fun j w1 w2 => ?_) ?_ (q7.set (fun _ => by simp [innO, innL, V.inn, q8])) rfl (by simp [innL, V.inn, q8]) ?_
      · rw [show partT s (rdT s d) 5 be a1 (n + 1) = (rdKs (rdT s d) [be, be + 1] a1 (n + 1)).tm 5 from rfl]
        rcases q9 with ⟨rfl, a2, n2, rfl, rfl, h⟩ | ⟨q, rfl, hq, h⟩
        · rw [h]; exact ⟨rfl, rfl, rfl, rfl⟩
        · rw [h]; exact ⟨rfl, hq⟩
      · rw [Sto.sne _ _ _ _ (by omega), q6 j (by omega) w2, hM4j j (by omega), hj2 j w1 w2]
      · rw [Sto.sne _ _ _ _ (by omega), q5]
      · generalize hM10 : Sto.set _ x _ = M10
        refine (FzT (d := d + 1 + 1) Bn.nil ((q4.up (m' := M10) (Nat.le_refl _) (fun j r1 r2 => ?_)).at) (by omega)).wide (by omega) (by omega) (fun j r1 r2 => rfl)
        rw [← hM10, Sto.sne _ _ _ _ (by omega)]
    · simp +contextual (disch := omega) [Nat.add_assoc, Int.add_assoc, if_pos, if_neg, -Int.not_lt, -Int.not_le, -Nat.not_lt, -Nat.not_le, -List.length_flatMap, k3']
      generalize hM4 : Sto.set (Sto.set m2 (x2 + 1) _) (x2 + 1) _ = M4
      have hM4j : ∀ j, j ≠ x2 + 1 → M4 j = m2 j := fun j hj => by rw [← hM4, Sto.sne _ _ _ _ hj, Sto.sne _ _ _ _ hj]
      have hM4y : M4 (x2 + 1) = some (.cells [.i .i64 6, .i .i64 0, .ns, .ns] false) := by rw [← hM4, Sto.seq]
      have hM4I : InnM p x M4 := by rw [← hM4]; exact (hI2.set (fun _ => rfl)).set (fun _ => rfl)
      have hM4p := (hM4j p (by omega)).trans k3
      have hM40 := (hM4j x (by omega)).trans t0
      clear hM4
      refine ref14_loop (x0 := x) (y := x2 + 1) s (rdT s d) wi be (1) [be, be + 1] a1 (n + 1) (d + 1) 6 hwi3 (by omega) (by simp) (fun i h => ?_) (hTW _ (by simp; omega)) (by simp +contextual (disch := omega) [Nat.add_assoc, Int.add_assoc, if_pos, if_neg, -Int.not_lt, -Int.not_le, -Nat.not_lt, -Nat.not_le, -List.length_flatMap]) hp (by omega) (by omega) hM4p hM4y hM4I ?_
      · have : i = 0 ∨ i = 1 := by simp at h; omega
        rcases this with rfl | rfl <;> simp
      intro e' m6 x6 B vs ai ni er ⟨g6, g7⟩ q1 q3 q4 q5 q6 q7 q8 q9
      have t60 := (q6 x (by omega) (by omega)).trans hM40
      simp +contextual (disch := omega) [Nat.add_assoc, Int.add_assoc, if_pos, if_neg, -Int.not_lt, -Int.not_le, -Nat.not_lt, -Nat.not_le, -List.length_flatMap, g6, g7, q3, t60]
      refine hK _ _ _ (.mk 6 0 [] vs) ai ni er ?_ (by omega) (fun j w1 w2 => ?_) ?_ (q7.set (fun _ => by simp [innO, innL, V.inn, q8])) rfl (by simp [innL, V.inn, q8]) ?_
      · rw [show partT s (rdT s d) 6 be a1 (n + 1) = (rdKs (rdT s d) [be, be + 1] a1 (n + 1)).tm 6 from rfl]
        rcases q9 with ⟨rfl, a2, n2, rfl, rfl, h⟩ | ⟨q, rfl, hq, h⟩
        · rw [h]; exact ⟨rfl, rfl, rfl, rfl⟩
        · rw [h]; exact ⟨rfl, hq⟩
      · rw [Sto.sne _ _ _ _ (by omega), q6 j (by omega) w2, hM4j j (by omega), hj2 j w1 w2]
      · rw [Sto.sne _ _ _ _ (by omega), q5]
      · generalize hM10 : Sto.set _ x _ = M10
        refine (FzT (d := d + 1 + 1) Bn.nil ((q4.up (m' := M10) (Nat.le_refl _) (fun j r1 r2 => ?_)).at) (by omega)).wide (by omega) (by omega) (fun j r1 r2 => rfl)
        rw [← hM10, Sto.sne _ _ _ _ (by omega)]
    · simp +contextual (disch := omega) [Nat.add_assoc, Int.add_assoc, if_pos, if_neg, -Int.not_lt, -Int.not_le, -Nat.not_lt, -Nat.not_le, -List.length_flatMap, k3']
      generalize hM4 : Sto.set (Sto.set m2 (x2 + 1) _) (x2 + 1) _ = M4
      have hM4j : ∀ j, j ≠ x2 + 1 → M4 j = m2 j := fun j hj => by rw [← hM4, Sto.sne _ _ _ _ hj, Sto.sne _ _ _ _ hj]
      have hM4y : M4 (x2 + 1) = some (.cells [.i .i64 7, .i .i64 0, .ns, .ns] false) := by rw [← hM4, Sto.seq]
      have hM4I : InnM p x M4 := by rw [← hM4]; exact (hI2.set (fun _ => rfl)).set (fun _ => rfl)
      have hM4p := (hM4j p (by omega)).trans k3
      have hM40 := (hM4j x (by omega)).trans t0
      clear hM4
      refine ref14_loop (x0 := x) (y := x2 + 1) s (rdT s d) wi be (2) [be, be, be + 1] a1 (n + 1) (d + 1) 7 hwi3 (by omega) (by simp) (fun i h => ?_) (hTW _ (by simp; omega)) (by simp +contextual (disch := omega) [Nat.add_assoc, Int.add_assoc, if_pos, if_neg, -Int.not_lt, -Int.not_le, -Nat.not_lt, -Nat.not_le, -List.length_flatMap]) hp (by omega) (by omega) hM4p hM4y hM4I ?_
      · have : i = 0 ∨ i = 1 ∨ i = 2 := by simp at h; omega
        rcases this with rfl | rfl | rfl <;> simp
      intro e' m6 x6 B vs ai ni er ⟨g6, g7⟩ q1 q3 q4 q5 q6 q7 q8 q9
      have t60 := (q6 x (by omega) (by omega)).trans hM40
      simp +contextual (disch := omega) [Nat.add_assoc, Int.add_assoc, if_pos, if_neg, -Int.not_lt, -Int.not_le, -Nat.not_lt, -Nat.not_le, -List.length_flatMap, g6, g7, q3, t60]
      refine hK _ _ _ (.mk 7 0 [] vs) ai ni er ?_ (by omega) (fun j w1 w2 => ?_) ?_ (q7.set (fun _ => by simp [innO, innL, V.inn, q8])) rfl (by simp [innL, V.inn, q8]) ?_
      · rw [show partT s (rdT s d) 7 be a1 (n + 1) = (rdKs (rdT s d) [be, be, be + 1] a1 (n + 1)).tm 7 from rfl]
        rcases q9 with ⟨rfl, a2, n2, rfl, rfl, h⟩ | ⟨q, rfl, hq, h⟩
        · rw [h]; exact ⟨rfl, rfl, rfl, rfl⟩
        · rw [h]; exact ⟨rfl, hq⟩
      · rw [Sto.sne _ _ _ _ (by omega), q6 j (by omega) w2, hM4j j (by omega), hj2 j w1 w2]
      · rw [Sto.sne _ _ _ _ (by omega), q5]
      · generalize hM10 : Sto.set _ x _ = M10
        refine (FzT (d := d + 1 + 1) Bn.nil ((q4.up (m' := M10) (Nat.le_refl _) (fun j r1 r2 => ?_)).at) (by omega)).wide (by omega) (by omega) (fun j r1 r2 => rfl)
        rw [← hM10, Sto.sne _ _ _ _ (by omega)]
    · simp +contextual (disch := omega) [Nat.add_assoc, Int.add_assoc, if_pos, if_neg, -Int.not_lt, -Int.not_le, -Nat.not_lt, -Nat.not_le, -List.length_flatMap, k3', n1, n2, n3, n4, n5, n6, n7]
      unfold partT at hK
      rw [if_neg n1, if_neg n2, if_neg n3, if_neg (by omega)] at hK
      refine un_w ?_
      simp +contextual (disch := omega) [Nat.add_assoc, Int.add_assoc, if_pos, if_neg, -Int.not_lt, -Int.not_le, -Nat.not_lt, -Nat.not_le, -List.length_flatMap, ref14_reader_term.b2, t0]
      refine hK _ _ _ (.mk k 0 [] []) a1 (n + 1 : Nat) 20 ⟨rfl, by omega⟩ (by omega) (fun j w1 w2 => ?_) ?_ ?_ rfl rfl (FzT Bn.nil FzN (by omega))
      · rw [Sto.sne _ _ _ _ (by omega), Sto.sne _ _ _ _ w2, Sto.sne _ _ _ _ (by omega), Sto.sne _ _ _ _ (by omega), hj2 j w1 w2]
      · rw [Sto.sne _ _ _ _ (by omega), Sto.seq]; rfl
      · repeat (first | exact hI2 | refine InnM.set ?_ (fun _ => rfl) | refine InnM.set ?_ (fun h => by omega))
end Pi


set_option linter.unusedSimpArgs false
set_option linter.unusedVariables false
namespace Pi
set_option maxHeartbeats 2000000 in
theorem ref14_Get.a (l : List Nat) (p : Int) (hl : Byt l) (hn : l.length ≤ 10000) : Ans ctx ref14_Get.n [.s (bs l), .i .i64 p] (getTV l p) := by
  refine ans ref14_Get.f ?_
  have hz : V.ag [.i .i64 0, .i .i64 0, .sl [] 0, .sl [] 0] = .ag (cT (.mk 0 0 [] [])) := by rw [cT_at]; rfl
  unfold getTV
  by_cases hp1 : p < 0
  · rw [if_pos (.inl hp1)]
    simp +contextual (disch := omega) [Nat.add_assoc, Int.add_assoc, if_pos, if_neg, -Int.not_lt, -Int.not_le, -Nat.not_lt, -Nat.not_le, -List.length_flatMap, ref14_Get.c, hp1, trV, hz]
  · by_cases hp2 : p > l.length
    · rw [if_pos (.inr hp2)]
      simp +contextual (disch := omega) [Nat.add_assoc, Int.add_assoc, if_pos, if_neg, -Int.not_lt, -Int.not_le, -Nat.not_lt, -Nat.not_le, -List.length_flatMap, ref14_Get.c, hp1, hp2, trV, hz]
    · rw [if_neg (by omega)]
      obtain ⟨a, rfl⟩ : ∃ a : Nat, p = a := ⟨p.toNat, by omega⟩
      have hp2' : ¬ (a : Int) > l.length := hp2
      simp +contextual (disch := omega) [Nat.add_assoc, Int.add_assoc, if_pos, if_neg, -Int.not_lt, -Int.not_le, -Nat.not_lt, -Nat.not_le, -List.length_flatMap, ref14_Get.c, hp1, hp2', Int.toNat_natCast]
      rw [CallX_op (by rfl)]
      refine openg_w rfl rfl (.inl rfl) ?_
      rw [show ctx.frz ref14_reader_term.n = false from rfl]
      refine ref14_reader_term.w l hl hn 14 30 (by omega) 0 a 0 (by omega) (by omega) (by simp +contextual (disch := omega) [Nat.add_assoc, Int.add_assoc, if_pos, if_neg, -Int.not_lt, -Int.not_le, -Nat.not_lt, -Nat.not_le, -List.length_flatMap]; rfl) (fun j hj => by simp +contextual (disch := omega) [Nat.add_assoc, Int.add_assoc, if_pos, if_neg, -Int.not_lt, -Int.not_le, -Nat.not_lt, -Nat.not_le, -List.length_flatMap]) ?_
      intro cs m' x' v a' n' e' hP h1 h2 h3 h4 h5 h6 h7
      have t0 : m' 0 = some (.cells [.i .i64 0, .i .i64 0, .ns, .ns] false) := by rw [h2 0 (by omega) (by omega)]; simp +contextual (disch := omega) [Nat.add_assoc, Int.add_assoc, if_pos, if_neg, -Int.not_lt, -Int.not_le, -Nat.not_lt, -Nat.not_le, -List.length_flatMap]
      unfold rcT at h3
      have ht : cs.take 4 = cs := List.take_of_length_le (by omega)
      generalize rdT l 30 0 a 0 = r at hP ⊢
      cases r with
      | bad e =>
        obtain ⟨rfl, he⟩ := hP
        have he' : ¬ (e : Int) = 0 := by omega
        simp +contextual (disch := omega) [Nat.add_assoc, Int.add_assoc, if_pos, if_neg, -Int.not_lt, -Int.not_le, -Nat.not_lt, -Nat.not_le, -List.length_flatMap, t0, h3, ht, h5, he, he', trV, hz]
      | ok v2 a2 n2 =>
        obtain ⟨rfl, rfl, rfl, rfl⟩ := hP
        simp +contextual (disch := omega) [Nat.add_assoc, Int.add_assoc, if_pos, if_neg, -Int.not_lt, -Int.not_le, -Nat.not_lt, -Nat.not_le, -List.length_flatMap, t0, h3, ht, h5, trV]
        generalize hM : Sto.set _ 0 _ = M
        obtain ⟨ids, e⟩ := h7 M (fun j q1 q2 => by rw [← hM]; simp +contextual (disch := omega) [Nat.add_assoc, Int.add_assoc, if_pos, if_neg, -Int.not_lt, -Int.not_le, -Nat.not_lt, -Nat.not_le, -List.length_flatMap]) 40 (by omega)
        simp +contextual (disch := omega) [Nat.add_assoc, Int.add_assoc, if_pos, if_neg, -Int.not_lt, -Int.not_le, -Nat.not_lt, -Nat.not_le, -List.length_flatMap, e]
set_option maxHeartbeats 2000000 in
/-- A term is the same as itself. -/
theorem ref13_Same.a (a : Tm) : a.Ok → Ans ctx ref13_Same.n [.ag (cT a), .ag (cT a)] (.b true) := by
  induction a using Tm.ind with
  | h a ih =>
  intro oka
  refine ans ref13_Same.f ?_
  have hla := oka.len
  have hll := oka.llen
  simp +contextual (disch := omega) [Nat.add_assoc, Int.add_assoc, if_pos, if_neg, -Int.not_lt, -Int.not_le, -Nat.not_lt, -Nat.not_le, -List.length_flatMap, ref13_Same.c]
  refine for_w (fun i e m x => e 2 = .p 0 0 ∧ e 3 = .p 1 0 ∧ m 0 = some (.cells (cT a) false) ∧ m 1 = some (.cells (cT a) false) ∧ e 5 = .i .i64 i) a.lvls.length ?_ ?_ ?_
  · simp +contextual (disch := omega) [Nat.add_assoc, Int.add_assoc, if_pos, if_neg, -Int.not_lt, -Int.not_le, -Nat.not_lt, -Nat.not_le, -List.length_flatMap]
  · rintro i e m x hi ⟨g1, g2, g3, g4, g5⟩
    have hk := ref02_Same.a a.lvls[i] (oka.lat hi) a.lvls[i] (oka.lat hi)
    rw [sameS_refl] at hk
    simp +contextual (disch := omega) [Nat.add_assoc, Int.add_assoc, if_pos, if_neg, -Int.not_lt, -Int.not_le, -Nat.not_lt, -Nat.not_le, -List.length_flatMap, ref13_Same.b1, g1, g2, g3, g4, g5, hi, ansK hk]
  · rintro e m x ⟨g1, g2, g3, g4, g5⟩
    simp +contextual (disch := omega) [Nat.add_assoc, Int.add_assoc, if_pos, if_neg, -Int.not_lt, -Int.not_le, -Nat.not_lt, -Nat.not_le, -List.length_flatMap, ref13_Same.b1, g1, g2, g3, g4, g5]
    refine for_w (fun i e m x => e 2 = .p 0 0 ∧ e 3 = .p 1 0 ∧ m 0 = some (.cells (cT a) false) ∧ m 1 = some (.cells (cT a) false) ∧ e 6 = .i .i64 i) a.kids.length ?_ ?_ ?_
    · simp +contextual (disch := omega) [Nat.add_assoc, Int.add_assoc, if_pos, if_neg, -Int.not_lt, -Int.not_le, -Nat.not_lt, -Nat.not_le, -List.length_flatMap, g1, g2, g3, g4]
    · rintro i e m x hi ⟨g1, g2, g3, g4, g5⟩
      have hk := ih a.kids[i] (List.getElem_mem hi) (oka.at hi)
      simp +contextual (disch := omega) [Nat.add_assoc, Int.add_assoc, if_pos, if_neg, -Int.not_lt, -Int.not_le, -Nat.not_lt, -Nat.not_le, -List.length_flatMap, ref13_Same.b2, g1, g2, g3, g4, g5, hi, ansK hk]
    · rintro e m x ⟨g1, g2, g3, g4, g5⟩
      simp +contextual (disch := omega) [Nat.add_assoc, Int.add_assoc, if_pos, if_neg, -Int.not_lt, -Int.not_le, -Nat.not_lt, -Nat.not_le, -List.length_flatMap, ref13_Same.b2, g1, g2, g3, g4, g5]
theorem lvR_ok {s : List Nat} {a : Nat} {v : L} {a' n' : Nat} (h : lvR s a = .ok v a' n') : v.Ok := by
  unfold lvR at h
  split at h
  · cases h
  · exact rd_ok _ _ _ _ _ _ _ h
theorem rdLs_ok {s : List Nat} : ∀ {m a : Nat} {ls : List L} {a' : Nat}, rdLs s m a = .ok ls a' → ls.length = m ∧ ∀ x ∈ ls, L.Ok x
  | 0, a, ls, a', h => by cases h; simp
  | m + 1, a, ls, a', h => by
    rw [rdLs_succ] at h
    cases hr : lvR s a with
    | bad e => rw [hr] at h; cases h
    | ok v a2 n2 =>
      rw [hr] at h
      simp only at h
      cases hr2 : rdLs s m a2 with
      | bad e => rw [hr2] at h; cases h
      | ok ls2 a3 =>
        rw [hr2] at h
        cases h
        obtain ⟨h1, h2⟩ := rdLs_ok hr2
        refine ⟨by simp [h1], fun x hx => ?_⟩
        rcases List.mem_cons.1 hx with rfl | hx
        · exact lvR_ok hr
        · exact h2 x hx
theorem rdKs_ok {f : Nat → Nat → Nat → TR} (hf : ∀ b a n v a' n', f b a n = .ok v a' n' → v.Ok) : ∀ {bs : List Nat} {a n : Nat} {ks : List Tm} {a' n' : Nat}, rdKs f bs a n = .ok ks a' n' → ks.length = bs.length ∧ ∀ x ∈ ks, Tm.Ok x
  | [], a, n, ks, a', n', h => by cases h; simp
  | b :: bs, a, n, ks, a', n', h => by
    rw [rdKs_cons] at h
    cases hr : f b a n with
    | bad e => rw [hr] at h; cases h
    | ok v a2 n2 =>
      rw [hr] at h
      simp only at h
      cases hr2 : rdKs f bs a2 n2 with
      | bad e => rw [hr2] at h; cases h
      | ok ls2 a3 n3 =>
        rw [hr2] at h
        cases h
        obtain ⟨h1, h2⟩ := rdKs_ok hf hr2
        refine ⟨by simp [h1], fun x hx => ?_⟩
        rcases List.mem_cons.1 hx with rfl | hx
        · exact hf _ _ _ _ _ _ hr
        · exact h2 x hx
theorem getR_le : ∀ (l : List Nat) (k n : Nat), (getR l k n).1 ≤ 1099511627776
  | [], k, n => by simp [getR]
  | b :: r, k, n => by
    rw [getR]
    split
    · simp
    · split
      · split
        · simp
        · simp only; omega
      · exact getR_le r _ _
theorem numT_bd (s : List Nat) (a most : Nat) : (numT s a most).1 < 1099511627777 := by
  have h : (getS s a).1 ≤ 1099511627776 := by
    unfold getS
    split
    · simp
    · exact getR_le _ _ _
  unfold numT
  split
  · simp
  · split
    · simp
    · simp only; omega
theorem partT_ok {s : List Nat} {f : Nat → Nat → Nat → TR} (hf : ∀ b a n v a' n', f b a n = .ok v a' n' → v.Ok) {k b a n : Nat} {v : Tm} {a' n' : Nat} (h : partT s f k b a n = .ok v a' n') : v.Ok := by
  unfold partT at h
  split at h
  · split at h
    · cases h
    · cases h
      have := numT_bd s a (1000 + b)
      exact .mk (by simp) (by simp) (by omega) (by omega) (fun x hx => by cases hx) (fun x hx => by cases hx)
  split at h
  · cases hr : rdLs s 1 a with
    | bad e => rw [hr] at h; cases h
    | ok ls a2 =>
      rw [hr] at h
      cases h
      obtain ⟨h1, h2⟩ := rdLs_ok hr
      exact .mk (by omega) (by simp) (by omega) (by omega) h2 (fun x hx => by cases hx)
  split at h
  · split at h
    · cases h
    split at h
    · cases h
    have b1 := numT_bd s a 20
    have b2 := numT_bd s (numT s a 20).2.1 6
    cases hr : rdLs s (numT s (numT s a 20).2.1 6).1 (numT s (numT s a 20).2.1 6).2.1 with
    | bad e => rw [hr] at h; cases h
    | ok ls a2 =>
      rw [hr] at h
      cases h
      obtain ⟨h1, h2⟩ := rdLs_ok hr
      exact .mk (by omega) (by simp) (by omega) (by omega) h2 (fun x hx => by cases hx)
  split at h
  · rename_i hk
    cases hr : rdKs f (kidsB k b) a n with
    | bad e => rw [hr] at h; cases h
    | ok ks a2 n2 =>
      rw [hr] at h
      cases h
      obtain ⟨h1, h2⟩ := rdKs_ok hf hr
      have : (kidsB k b).length ≤ 3 := by unfold kidsB; split <;> (try split) <;> simp
      exact .mk (by simp) (by omega) (by omega) (by omega) (fun x hx => by cases hx) h2
  · cases h
theorem rdT_ok (s : List Nat) : ∀ (d b a n : Nat) (v : Tm) (a' n' : Nat), rdT s d b a n = .ok v a' n' → v.Ok
  | 0, b, a, n, v, a', n', h => by cases h
  | d + 1, b, a, n, v, a', n', h => by
    unfold rdT at h
    split at h
    · cases h
    split at h
    · cases h
    exact partT_ok (rdT_ok s d) h
theorem getTV_tu (l : List Nat) (p : Int) : ∃ (v : Tm) (a e : Int), getTV l p = .tu [.ag (cT v), .i .i64 a, .i .i64 e] ∧ v.Ok := by
  have z : (Tm.mk 0 0 [] []).Ok := .mk (by simp) (by simp) (by omega) (by omega) (fun x hx => by cases hx) (fun x hx => by cases hx)
  unfold getTV
  split
  · exact ⟨_, _, _, rfl, z⟩
  · cases h : rdT l 30 0 p.toNat 0 with
    | bad e => exact ⟨_, _, _, rfl, z⟩
    | ok v a n => exact ⟨_, _, _, rfl, rdT_ok l _ _ _ _ _ _ _ h⟩
theorem law14_get.a (l : List Nat) (p : Int) (hl : Byt l) (hn : l.length ≤ 10000) : Ans ctx law14_get.n [.s (bs l), .i .i64 p] (.b true) := by
  refine ans law14_get.f ?_
  have h1 := tcode_Get.a l p hl hn
  have h2 := ref14_Get.a l p hl hn
  obtain ⟨v, a, e, h, ok⟩ := getTV_tu l p
  rw [h] at h1 h2
  simp +contextual (disch := omega) [Nat.add_assoc, Int.add_assoc, if_pos, if_neg, -Int.not_lt, -Int.not_le, -Nat.not_lt, -Nat.not_le, -List.length_flatMap, law14_get.c, ansK h1, ansK h2, ansK (ref13_Same.a v ok)]
end Pi

