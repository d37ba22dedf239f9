/- Contracts: stores (layer 11): the document's Add. -/
import Derived.Test.YtfdkpnckflmcaaaC11d
set_option linter.unusedSimpArgs false
set_option linter.unusedVariables false
namespace Pi
theorem right_app_not {vars : Int} {a b : List C} (h2 : rightC vars b = false) (h1 : rightC vars a = true) (h3 : a.length + b.length ≤ 60) : rightC vars (a ++ b) = false := by
  cases h : rightC vars (a ++ b) with
  | false => rfl
  | true =>
    obtain ⟨a1, a2, a3, a4⟩ := right_ok h
    have : rightC vars b = true := by
      simp [rightC]
      exact ⟨by omega, fun c hc => a4 c (List.mem_append_right _ hc)⟩
    rw [h2] at this
    cases this
theorem Xa.ic {A : Nat → Prop} {m m' : Sto} {B : V} {cl : List C} {fs : List V} {x : Nat} (h : Xa A m B cl fs) (hm : Ag A m m') (hA : ∀ j, A j → j < x) : Ic m' B cl fs x := by
  rcases h with ⟨h1, h2, h3⟩ | ⟨a, h1, h2, h3, h4⟩
  · exact .inr (.inl ⟨h1, h2, h3⟩)
  · have hb := hm a h3
    rw [h2] at hb
    obtain ⟨r, e⟩ := bare_cells hb
    exact .inr (.inr ⟨a, r, h1, e, hA a h3⟩)
theorem or3 {a b : Prop} (h : a ∨ False ∨ b) : a ∨ b := by
  rcases h with h | h | h
  · exact .inl h
  · exact h.elim
  · exact .inr h
set_option maxHeartbeats 1000000 in
theorem ref11_Add.a (s : St) (l : List C) (hs : s.Few) (hl : l.length ≤ 1000000) (hf : ∀ c ∈ l, c.frm.length ≤ 9223372036854775807) : Ans ctx ref11_Add.n [.ag (cS s), sV cC l] (addV s l) := by
  refine ans ref11_Add.f ?_
  have hR := ref11_Right.a s hs.1
  obtain ⟨hok, z1, z2, z3⟩ := hs
  have hR' : Ans ctx ref11_Right.n [.ag [.i .i64 s.vars, sV cC s.cl, sV cI s.md]] (.b (rightS s)) := hR
  have hfo : ctx.frz ref11_own.n = false := rfl
  have hcat : ∀ c ∈ s.cl ++ l, c.frm.length ≤ 9223372036854775807 := fun c hc => by
    rcases List.mem_append.1 hc with hc | hc
    · exact hok.2 c hc
    · exact hf c hc
  unfold addV
  by_cases c1 : rightS s = false
  · rw [if_pos c1]
    simp +contextual (disch := omega) [Nat.add_assoc, Int.add_assoc, if_pos, if_neg, -Int.not_lt, -Int.not_le, -Nat.not_lt, -Nat.not_le, -List.length_flatMap, ref11_Add.c, cS, ansK hR', c1]
    rw [CallX_op (by rfl)]
    refine openg_w rfl rfl (.inl rfl) ?_
    rw [hfo]
    refine ref11_own.w (.inl ⟨rfl, rfl⟩) (Fr.sv (fun _ => False) _ s.cl) (Rl.sV (fun _ => False) _ s.md) (fun j h => h.elim) (by simp) z1 z2 z3 ?_
    intro E1 E2 gs' m5 x5 hx5 hm5 hX5 hB5
    have e1 : m5 1 = some (.cells [.i .i64 0, .ns, .ns] false) := by rw [hm5 1 (by omega)]; simp +contextual (disch := omega) [Nat.add_assoc, Int.add_assoc, if_pos, if_neg, -Int.not_lt, -Int.not_le, -Nat.not_lt, -Nat.not_le, -List.length_flatMap]
    obtain ⟨i8, f8, _⟩ := (hX5.up (m' := m5.set 1 (some (.cells [.i .i64 s.vars, E1, E2] false))) (Nat.le_refl _) (Nat.le_refl _) (fun j h1 h2 => by rw [Sto.sne _ _ _ _ (by omega)])).rc.fz24
    have f9 := (hB5.up (m' := m5.set 1 (some (.cells [.i .i64 s.vars, E1, E2] false))) (Nat.le_refl _) (fun j h1 h2 => by rw [Sto.sne _ _ _ _ (by omega)])).fz24
    simp +contextual (disch := omega) [Nat.add_assoc, Int.add_assoc, if_pos, if_neg, -Int.not_lt, -Int.not_le, -Nat.not_lt, -Nat.not_le, -List.length_flatMap, e1, f8, f9, cS]
  · rw [if_neg c1]
    have c1' : rightS s = true := by simpa using c1
    have hRc : rightC s.vars s.cl = true := by
      unfold rightS at c1'
      simp only [Bool.and_eq_true] at c1'
      exact c1'.1.1
    by_cases c2 : 60 < s.cl.length + l.length
    · rw [if_pos c2]
      simp +contextual (disch := omega) [Nat.add_assoc, Int.add_assoc, if_pos, if_neg, -Int.not_lt, -Int.not_le, -Nat.not_lt, -Nat.not_le, -List.length_flatMap, ref11_Add.c, cS, ansK hR', c1', c2]
      rw [CallX_op (by rfl)]
      refine openg_w rfl rfl (.inl rfl) ?_
      rw [hfo]
      refine ref11_own.w (.inl ⟨rfl, rfl⟩) (Fr.sv (fun _ => False) _ s.cl) (Rl.sV (fun _ => False) _ s.md) (fun j h => h.elim) (by simp) z1 z2 z3 ?_
      intro E1 E2 gs' m5 x5 hx5 hm5 hX5 hB5
      have e1 : m5 1 = some (.cells [.i .i64 0, .ns, .ns] false) := by rw [hm5 1 (by omega)]; simp +contextual (disch := omega) [Nat.add_assoc, Int.add_assoc, if_pos, if_neg, -Int.not_lt, -Int.not_le, -Nat.not_lt, -Nat.not_le, -List.length_flatMap]
      obtain ⟨i8, f8, _⟩ := (hX5.up (m' := m5.set 1 (some (.cells [.i .i64 s.vars, E1, E2] false))) (Nat.le_refl _) (Nat.le_refl _) (fun j h1 h2 => by rw [Sto.sne _ _ _ _ (by omega)])).rc.fz24
      have f9 := (hB5.up (m' := m5.set 1 (some (.cells [.i .i64 s.vars, E1, E2] false))) (Nat.le_refl _) (fun j h1 h2 => by rw [Sto.sne _ _ _ _ (by omega)])).fz24
      simp +contextual (disch := omega) [Nat.add_assoc, Int.add_assoc, if_pos, if_neg, -Int.not_lt, -Int.not_le, -Nat.not_lt, -Nat.not_le, -List.length_flatMap, e1, f8, f9, cS]
    · rw [if_neg c2]
      simp +contextual (disch := omega) [Nat.add_assoc, Int.add_assoc, if_pos, if_neg, -Int.not_lt, -Int.not_le, -Nat.not_lt, -Nat.not_le, -List.length_flatMap, ref11_Add.c, cS, ansK hR', c1', c2]
      rw [CallX_op (by rfl)]
      refine openg_w rfl rfl (.inl rfl) ?_
      rw [hfo]
      refine ref11_own.w (.inl ⟨rfl, rfl⟩) (Fr.sv (fun _ => False) _ s.cl) (Rl.sV (fun _ => False) _ s.md) (fun j h => h.elim) (by simp) z1 z2 z3 ?_
      intro B1 B2 gs m1 x1 hx1 hm1 hX1 hB1
      have e0 : m1 0 = some (.cells [.i .i64 s.vars, sV cC s.cl, sV cI s.md] false) := by rw [hm1 0 (by omega)]; simp +contextual (disch := omega) [Nat.add_assoc, Int.add_assoc, if_pos, if_neg, -Int.not_lt, -Int.not_le, -Nat.not_lt, -Nat.not_le, -List.length_flatMap]
      have e1 : m1 1 = some (.cells [.i .i64 0, .ns, .ns] false) := by rw [hm1 1 (by omega)]; simp +contextual (disch := omega) [Nat.add_assoc, Int.add_assoc, if_pos, if_neg, -Int.not_lt, -Int.not_le, -Nat.not_lt, -Nat.not_le, -List.length_flatMap]
      simp +contextual (disch := omega) [Nat.add_assoc, Int.add_assoc, if_pos, if_neg, -Int.not_lt, -Int.not_le, -Nat.not_lt, -Nat.not_le, -List.length_flatMap, e0, e1, -apV_ns]
      have hA1 : Xa (fun j => 14 ≤ j ∧ j < x1) ((m1.set x1 (some (.cells [.i .i64 0, .ns, .ns] false))).set x1 (some (.cells [.i .i64 s.vars, B1, B2] false))) B1 s.cl gs :=
        hX1.xa.up (fun j h => by rw [Sto.sne _ _ _ _ (by omega), Sto.sne _ _ _ _ (by omega)]) (fun j h => h)
      refine hA1.ap (G := fun _ => False) (trips_sv l).symm rfl (Fr.sv _ _ l) (fun _ _ h => h) (by omega) (fun h => h) (by omega) ?_
      intro B ws m2 r1 r2 r3
      have q0 : m2 0 = some (.cells [.i .i64 s.vars, sV cC s.cl, sV cI s.md] false) := by rw [r3 0 (by omega) (by omega), Sto.sne _ _ _ _ (by omega), Sto.sne _ _ _ _ (by omega), e0]
      have q1 : m2 1 = some (.cells [.i .i64 0, .ns, .ns] false) := by rw [r3 1 (by omega) (by omega), Sto.sne _ _ _ _ (by omega), Sto.sne _ _ _ _ (by omega), e1]
      have qx : m2 x1 = some (.cells [.i .i64 s.vars, B1, B2] false) := by rw [r3 x1 (by omega) (by omega), Sto.seq]
      have hnx : ∀ j, ((14 ≤ j ∧ j < x1) ∨ False ∨ j = x1 + 5) → j ≠ x1 := fun j h => by have h := or3 h; omega
      have r2' := r2.up (m' := m2.set x1 (some (.cells [.i .i64 s.vars, B, B2] false))) (fun j h => by rw [Sto.sne _ _ _ _ (hnx j h)]) (fun _ h => h)
      obtain ⟨ids, hz, hid⟩ := r2'.rc.fz24
      have hin : ∀ j, j < 14 ∨ j = x1 → j ∉ ids := fun j hj h => by
        rcases hid j h with h | h | h
        · omega
        · exact h
        · omega
      have a0 : ∀ u, aft u (m2.set x1 (some (.cells [.i .i64 s.vars, B, B2] false))) ids 0 = some (.cells [.i .i64 s.vars, sV cC s.cl, sV cI s.md] false) := fun u => by rw [aft_none _ _ _ _ (hin 0 (by omega)), Sto.sne _ _ _ _ (by omega), q0]
      have a1 : ∀ u, aft u (m2.set x1 (some (.cells [.i .i64 s.vars, B, B2] false))) ids 1 = some (.cells [.i .i64 0, .ns, .ns] false) := fun u => by rw [aft_none _ _ _ _ (hin 1 (by omega)), Sto.sne _ _ _ _ (by omega), q1]
      have ax : ∀ u, aft u (m2.set x1 (some (.cells [.i .i64 s.vars, B, B2] false))) ids x1 = some (.cells [.i .i64 s.vars, B, B2] false) := fun u => by rw [aft_none _ _ _ _ (hin x1 (by omega)), Sto.seq]
      have hS := ref09_Solve.a s.vars (s.cl ++ l) (by simp; omega) hcat
      by_cases c3 : rightC s.vars l = false
      · rw [if_pos c3]
        rw [solveV, if_neg (by rw [right_app_not c3 hRc (by omega)]; simp)] at hS
        simp +contextual (disch := omega) [Nat.add_assoc, Int.add_assoc, if_pos, if_neg, -Int.not_lt, -Int.not_le, -Nat.not_lt, -Nat.not_le, -List.length_flatMap, r1, qx, q0, r2.rc.stor, r2.rc.cells, hz, ansK hS, a0, a1, ax]
        rw [CallX_op (by rfl)]
        refine openg_w rfl rfl (.inl rfl) ?_
        rw [hfo]
        refine ref11_own.w (.inl ⟨rfl, rfl⟩) (Fr.sv (fun _ => False) _ s.cl) (Rl.sV (fun _ => False) _ s.md) (fun j h => h.elim) (by simp) z1 z2 z3 ?_
        intro E1 E2 gs' m5 x5 hx5 hm5 hX5 hB5
        have e5 : m5 1 = some (.cells [.i .i64 0, .ns, .ns] false) := by rw [hm5 1 (by omega)]; exact a1 _
        obtain ⟨i8, f8, _⟩ := (hX5.up (m' := m5.set 1 (some (.cells [.i .i64 s.vars, E1, E2] false))) (Nat.le_refl _) (Nat.le_refl _) (fun j h1 h2 => by rw [Sto.sne _ _ _ _ (by omega)])).rc.fz24
        have f9 := (hB5.up (m' := m5.set 1 (some (.cells [.i .i64 s.vars, E1, E2] false))) (Nat.le_refl _) (fun j h1 h2 => by rw [Sto.sne _ _ _ _ (by omega)])).fz24
        simp +contextual (disch := omega) [Nat.add_assoc, Int.add_assoc, if_pos, if_neg, -Int.not_lt, -Int.not_le, -Nat.not_lt, -Nat.not_le, -List.length_flatMap, e5, f8, f9, cS]
      · rw [if_neg c3]
        have hRa := right_app hRc (by simpa using c3) (by omega)
        rw [solveV, if_pos hRa] at hS
        by_cases c4 : (solveC s.vars.toNat (s.cl ++ l)).2.1 = false
        · rw [if_pos c4]
          rw [c4] at hS
          have hC := ref10_Core.a s.vars (s.cl ++ l) (by simp; omega) hcat
          have hlost : lostC s.vars.toNat (s.cl ++ l) = true := by unfold lostC; rw [c4]; rfl
          rw [coreV, if_pos hRa, if_pos hlost] at hC
          have b0 : ∀ u v, aft v (aft u (m2.set x1 (some (.cells [.i .i64 s.vars, B, B2] false))) ids) ids 0 = some (.cells [.i .i64 s.vars, sV cC s.cl, sV cI s.md] false) := fun u v => by rw [aft_none _ _ _ _ (hin 0 (by omega)), a0]
          have b1 : ∀ u v, aft v (aft u (m2.set x1 (some (.cells [.i .i64 s.vars, B, B2] false))) ids) ids 1 = some (.cells [.i .i64 0, .ns, .ns] false) := fun u v => by rw [aft_none _ _ _ _ (hin 1 (by omega)), a1]
          simp +contextual (disch := omega) [Nat.add_assoc, Int.add_assoc, if_pos, if_neg, -Int.not_lt, -Int.not_le, -Nat.not_lt, -Nat.not_le, -List.length_flatMap, r1, qx, q0, r2.rc.stor, r2.rc.cells, hz, ansK hS, a0, a1, ax, ansK hC, b0, b1]
          rw [CallX_op (by rfl)]
          refine openg_w rfl rfl (.inl rfl) ?_
          rw [hfo]
          refine ref11_own.w (.inl ⟨rfl, rfl⟩) (Fr.sv (fun _ => False) _ s.cl) (Rl.sV (fun _ => False) _ s.md) (fun j h => h.elim) (by simp) z1 z2 z3 ?_
          intro E1 E2 gs' m5 x5 hx5 hm5 hX5 hB5
          have e5 : m5 1 = some (.cells [.i .i64 0, .ns, .ns] false) := by rw [hm5 1 (by omega)]; exact b1 _ _
          obtain ⟨i8, f8, _⟩ := (hX5.up (m' := m5.set 1 (some (.cells [.i .i64 s.vars, E1, E2] false))) (Nat.le_refl _) (Nat.le_refl _) (fun j h1 h2 => by rw [Sto.sne _ _ _ _ (by omega)])).rc.fz24
          have f9 := (hB5.up (m' := m5.set 1 (some (.cells [.i .i64 s.vars, E1, E2] false))) (Nat.le_refl _) (fun j h1 h2 => by rw [Sto.sne _ _ _ _ (by omega)])).fz24
          simp +contextual (disch := omega) [Nat.add_assoc, Int.add_assoc, if_pos, if_neg, -Int.not_lt, -Int.not_le, -Nat.not_lt, -Nat.not_le, -List.length_flatMap, e5, f8, f9, cS]
        · rw [if_neg c4]
          have c4' : (solveC s.vars.toNat (s.cl ++ l)).2.1 = true := by simpa using c4
          rw [c4'] at hS
          simp +contextual (disch := omega) [Nat.add_assoc, Int.add_assoc, if_pos, if_neg, -Int.not_lt, -Int.not_le, -Nat.not_lt, -Nat.not_le, -List.length_flatMap, r1, qx, q0, r2.rc.stor, r2.rc.cells, hz, ansK hS, a0, a1, ax]
          have hag : Ag (fun j => (14 ≤ j ∧ j < x1) ∨ False ∨ j = x1 + 5) (m2.set x1 (some (.cells [.i .i64 s.vars, B, B2] false))) ((aft (.tu [sV cI (solveC s.vars.toNat (s.cl ++ l)).1, .b true, .i .i64 (solveC s.vars.toNat (s.cl ++ l)).2.2, .i .i64 0])
            (m2.set x1 (some (.cells [.i .i64 s.vars, B, B2] false))) ids).set x1 (some (.cells [.i .i64 s.vars, B, sV cI (solveC s.vars.toNat (s.cl ++ l)).1] false))) := fun j hj => by rw [Sto.sne _ _ _ _ (hnx j hj), bare_aft]
          rw [CallX_op (by rfl)]
          refine openg_w rfl rfl (.inl rfl) ?_
          rw [hfo]
          refine ref11_own.w (s := ⟨s.vars, s.cl ++ l, (solveC s.vars.toNat (s.cl ++ l)).1⟩) (r2'.ic hag (fun j h => by have h := or3 h; omega)) (r2'.rc.fr.up hag (fun j h => h)) (Rl.sV (fun j => (14 ≤ j ∧ j < x1) ∨ False ∨ j = x1 + 5) _ _) (fun j h => by have h := or3 h; omega) (by simp) (by simp; omega) (by have := solveC_len s.vars (s.cl ++ l) hRa; simp only; omega) (fun c hc => Nat.le_trans (okC_six ((right_ok hRa).2.2.2 c hc)) (by omega)) ?_
          intro E1 E2 gs' m5 x5 hx5 hm5 hX5 hB5
          have e5 : m5 1 = some (.cells [.i .i64 0, .ns, .ns] false) := by rw [hm5 1 (by omega)]; rw [Sto.sne _ _ _ _ (by omega)]; exact a1 _
          obtain ⟨i8, f8, _⟩ := (hX5.up (m' := m5.set 1 (some (.cells [.i .i64 s.vars, E1, E2] false))) (Nat.le_refl _) (Nat.le_refl _) (fun j h1 h2 => by rw [Sto.sne _ _ _ _ (by omega)])).rc.fz24
          have f9 := (hB5.up (m' := m5.set 1 (some (.cells [.i .i64 s.vars, E1, E2] false))) (Nat.le_refl _) (fun j h1 h2 => by rw [Sto.sne _ _ _ _ (by omega)])).fz24
          simp +contextual (disch := omega) [Nat.add_assoc, Int.add_assoc, if_pos, if_neg, -Int.not_lt, -Int.not_le, -Nat.not_lt, -Nat.not_le, -List.length_flatMap, e5, f8, f9, cS]
end Pi
