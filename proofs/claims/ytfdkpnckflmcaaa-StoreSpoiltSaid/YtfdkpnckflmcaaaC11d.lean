/- Contracts: stores (layer 11): clauses put behind the others. -/
import Derived.Test.YtfdkpnckflmcaaaC11c
import Derived.Test.YtfdkpnckflmcaaaC10c
set_option linter.unusedSimpArgs false
set_option linter.unusedVariables false
namespace Pi
set_option maxHeartbeats 1000000 in
theorem store_keeper_put.w {m : Sto} {x y : Nat} {vars : Int} {K : CR → Sto → Nat → Prop} {A G : Nat → Prop} {B1 B2 W : V} {cl dl : List C} {fs gs : List V} (hAx : ∀ j, A j → j < x) (hGx : ∀ j, G j → j < x) (hy : ¬ A y ∧ ¬ G y ∧ y < x) (hAG : ∀ j, A j → ¬ G j) (hm : m y = some (.cells [.i .i64 vars, B1, B2] false)) (hx : Xa A m B1 cl fs)
    (hd : slCells m 3 W = some (trips gs dl)) (hdl : lenSl W = some dl.length) (hg : Fr G m gs dl)
    (z1 : cl.length ≤ 1000) (z2 : dl.length ≤ 1000000) (z3 : ∀ c ∈ cl ++ dl, c.frm.length ≤ 9223372036854775807) (hR : rightC vars (cl ++ dl) = true)
    (hK : ∀ B m' x', x + 9 ≤ x' → (∀ j, j < x → ¬ A j → ¬ G j → j ≠ y → m' j = m j) → Rc (fun j => A j ∨ G j ∨ j = x + 8) m' B (cl ++ dl) (fs ++ gs) → m' y = some (.cells [.i .i64 vars, B, sV cI (solveC vars.toNat (cl ++ dl)).1] false) → K (.ret (.b (solveC vars.toNat (cl ++ dl)).2.1)) m' x') :
    w ctx (envOf [.p y 0, W]) m x [] none none (RetG ctx store_keeper_put.c.rs K) store_keeper_put.c.code := by
  have h1 := ap_of (m := m) (k := 3) hdl
  have h2 := lenV_of (m := m) hdl
  rw [hd] at h1
  have hS := solve_Solve.a vars (cl ++ dl) (by simp; omega) z3
  rw [solveV, if_pos hR] at hS
  simp +contextual (disch := omega) [Nat.add_assoc, Int.add_assoc, if_pos, if_neg, -Int.not_lt, -Int.not_le, -Nat.not_lt, -Nat.not_le, -List.length_flatMap, store_keeper_put.c, hm, h1, h2, -apV_ns]
  refine hx.ap rfl rfl hg hAG (fun h => by have := hAx _ h; omega) (fun h => by have := hGx _ h; omega) (by omega) ?_
  intro B ws m5 r1 r2 r3
  have ry : m5 y = some (.cells [.i .i64 vars, B1, B2] false) := by rw [r3 y hy.1 (by omega), hm]
  have rc := r2.rc
  have hny : ∀ j, (A j ∨ G j ∨ j = x + 8) → j ≠ y := by
    rintro j (h | h | h) e
    · exact hy.1 (e ▸ h)
    · exact hy.2.1 (e ▸ h)
    · omega
  have r2' := (r2.up (m' := m5.set y (some (.cells [.i .i64 vars, B, B2] false))) (fun j h1 => by rw [Sto.sne _ _ _ _ (hny j h1)]) (fun _ h => h)).rc
  obtain ⟨ids, hz, hid⟩ := r2'.fz24
  have hyi : y ∉ ids := fun h => hny y (hid y h) rfl
  have ha : ∀ u, aft u (m5.set y (some (.cells [.i .i64 vars, B, B2] false))) ids y = some (.cells [.i .i64 vars, B, B2] false) := fun u => by rw [aft_none _ _ _ _ hyi, Sto.seq]
  simp +contextual (disch := omega) [Nat.add_assoc, Int.add_assoc, if_pos, if_neg, -Int.not_lt, -Int.not_le, -Nat.not_lt, -Nat.not_le, -List.length_flatMap, r1, ry, rc.stor, rc.cells, hz, ansK hS, ha]
  refine hK B _ _ (by omega) (fun j h1 h2 h3 h4 => ?_) ?_ ?_
  · rw [Sto.sne _ _ _ _ h4, aft_none _ _ _ _ (fun h => ?_), Sto.sne _ _ _ _ h4, r3 j h2 (by omega)]
    rcases hid j h with h | h | h
    · exact h2 h
    · exact h3 h
    · omega
  · exact r2'.up (.trans (.aft _ _ _) (.eq fun j hj => by rw [Sto.sne _ _ _ _ (hny j hj)])) (fun j hj => hj)
  · rw [Sto.seq]
theorem right_app {vars : Int} {a b : List C} (h1 : rightC vars a = true) (h2 : rightC vars b = true) (h3 : a.length + b.length ≤ 60) : rightC vars (a ++ b) = true := by
  obtain ⟨a1, a2, a3, a4⟩ := right_ok h1
  obtain ⟨b1, b2, b3, b4⟩ := right_ok h2
  simp [rightC]
  exact ⟨by omega, a4, b4⟩
/-- What Add tells. -/
def addV (s : St) (l : List C) : V :=
  if rightS s = false then .tu [.ag (cS s), sV cI [], .i .i64 1]
  else if 60 < s.cl.length + l.length then .tu [.ag (cS s), sV cI [], .i .i64 2]
  else if rightC s.vars l = false then .tu [.ag (cS s), sV cI [], .i .i64 1]
  else if (solveC s.vars.toNat (s.cl ++ l)).2.1 = false then .tu [.ag (cS s), sV cI (intL (coreL s.vars.toNat (s.cl ++ l))), .i .i64 30]
  else .tu [.ag (cS ⟨s.vars, s.cl ++ l, (solveC s.vars.toNat (s.cl ++ l)).1⟩), sV cI [], .i .i64 0]
/-- Stores that are not great. -/
def St.Few (s : St) : Prop := s.Sz ∧ s.cl.length ≤ 1000 ∧ s.md.length ≤ 1000 ∧ ∀ c ∈ s.cl, c.frm.length ≤ 1000
theorem store_Add.a (s : St) (l : List C) (hs : s.Few) (hl : l.length ≤ 1000000) (hf : ∀ c ∈ l, c.frm.length ≤ 9223372036854775807) : Ans ctx store_Add.n [.ag (cS s), sV cC l] (addV s l) := by
  refine ans store_Add.f ?_
  have hR := store_Right.a s hs.1
  obtain ⟨hok, z1, z2, z3⟩ := hs
  have hag : ∀ (D : Nat → Option (Bool × List V × List V × List Nat)), frzL D [.ag (cS s)] = some ([.ag (cS s)], []) := fun D => by simp
  simp +contextual (disch := omega) [Nat.add_assoc, Int.add_assoc, if_pos, if_neg, -Int.not_lt, -Int.not_le, -Nat.not_lt, -Nat.not_le, -List.length_flatMap, store_Add.c, cS]
  rw [CallQ_op (by rfl)]
  refine openq_w rfl rfl rfl rfl (a := [.ag [.i .i64 s.vars, sV cC s.cl, sV cI s.md]]) (by simp [freezeL]) ?_
  refine store_own.w (A := fun _ => False) (Rc.sV _ _ s.cl) (Rl.sV _ _ s.md) (fun j h => h.elim) z1 z2 z3 ?_
  intro B1 B2 gs m1 x1 hx1 hm1 hX1 hB1 hO1
  obtain ⟨o1, o2, o3⟩ := hO1 Own.nil (by intro F hF; obtain ⟨c, _, rfl⟩ := List.mem_map.1 hF; rfl) rfl rfl
  refine ⟨by simp [V.over, overL, o2, o3], fun j h1 _ => o1 j h1, fun ws1 ids1 w1 w2 w3 => ?_⟩
  obtain ⟨M1, hM1⟩ : ∃ M1, M1 = ((Sto.set (fun x => none) 0 (some (PObj.cells [V.i .i64 s.vars, sV cC s.cl, sV cI s.md] false))).set 1 (some (PObj.cells [V.i .i64 0, V.ns, V.ns] false))).app ws1 := ⟨_, rfl⟩
  have e0 : M1 0 = some (.cells [.i .i64 s.vars, sV cC s.cl, sV cI s.md] false) := by rw [hM1, w3, if_neg (by omega)]; simp +contextual (disch := omega) [Nat.add_assoc, Int.add_assoc, if_pos, if_neg, -Int.not_lt, -Int.not_le, -Nat.not_lt, -Nat.not_le, -List.length_flatMap]
  have e1 : M1 1 = some (.cells [.i .i64 0, .ns, .ns] false) := by rw [hM1, w3, if_neg (by omega)]; simp +contextual (disch := omega) [Nat.add_assoc, Int.add_assoc, if_pos, if_neg, -Int.not_lt, -Int.not_le, -Nat.not_lt, -Nat.not_le, -List.length_flatMap]
  have eA : ∀ j, 5 ≤ j → j < x1 → M1 j = m1 j := fun j h1 h2 => by rw [hM1, w3, if_pos ⟨h1, h2⟩]
  have hx : 5 + (x1 - 5) = x1 := by omega
  simp +contextual (disch := omega) [Nat.add_assoc, Int.add_assoc, if_pos, if_neg, -Int.not_lt, -Int.not_le, -Nat.not_lt, -Nat.not_le, -List.length_flatMap, hM1.symm, hx, w2, e0]
  rw [CallQ_op (by rfl)]
  refine openq_w rfl rfl rfl rfl (a := [.ag [.i .i64 s.vars, sV cC s.cl, sV cI s.md]]) (by simp [freezeL]) ?_
  refine store_own.w (A := fun _ => False) (Rc.sV _ _ s.cl) (Rl.sV _ _ s.md) (fun j h => h.elim) z1 z2 z3 ?_
  intro C1 C2 hs' m2 x2 hx2 hm2 hX2 hB2 hO2
  obtain ⟨p1, p2, p3⟩ := hO2 Own.nil (by intro F hF; obtain ⟨c, _, rfl⟩ := List.mem_map.1 hF; rfl) rfl rfl
  refine ⟨by simp [V.over, overL, p2, p3], fun j h1 _ => p1 j h1, fun ws2 ids2 u1 u2 u3 => ?_⟩
  obtain ⟨M2, hM2⟩ : ∃ M2, M2 = M1.app ws2 := ⟨_, rfl⟩
  have d0 : M2 0 = some (.cells [.i .i64 s.vars, sV cC s.cl, sV cI s.md] false) := by rw [hM2, u3, if_neg (by omega), e0]
  have d1 : M2 1 = some (.cells [.i .i64 0, .ns, .ns] false) := by rw [hM2, u3, if_neg (by omega), e1]
  have dA : ∀ j, 5 ≤ j → j < x1 → M2 j = m1 j := fun j h1 h2 => by rw [hM2, u3, if_neg (by omega)]; exact eA j h1 h2
  have dB : ∀ j, x1 + 1 ≤ j → j < x2 → M2 j = m2 j := fun j h1 h2 => by rw [hM2, u3, if_pos (by omega)]
  simp +contextual (disch := omega) [Nat.add_assoc, Int.add_assoc, if_pos, if_neg, -Int.not_lt, -Int.not_le, -Nat.not_lt, -Nat.not_le, -List.length_flatMap, hM2.symm, u2, d0]
  rw [IfK_pos ⟨fun l h => by have := w1 l h; omega, by omega, ⟨fun l h => by have := w1 l h; omega, fun h => by have := w1 _ h; omega⟩, by omega, ⟨fun l h => by have := u1 l h; omega, fun h => by have := u1 _ h; omega⟩, ⟨fun l h => by have := w1 l h; omega, fun h => by have := w1 _ h; omega⟩, fun l h => by have := u1 l h; omega, fun h => by have := u1 _ h; omega⟩]
  have hR' : Ans ctx store_Right.n [.ag [.i .i64 s.vars, sV cC s.cl, sV cI s.md]] (.b (rightS s)) := hR
  have hH := horn_Right.a s.vars l (by omega) hf
  have hBf := fun (m' : Sto) (h : ∀ j, 5 ≤ j → j < x1 → m' j = m1 j) => (hB1.up (m' := m') (Nat.le_refl _) h).fz24
  have hXf := fun (m' : Sto) (h : ∀ j, 5 ≤ j → j < x1 → m' j = m1 j) => (hX1.up (m' := m') (Nat.le_refl _) (Nat.le_refl _) h).rc.fz24
  obtain ⟨M3, hM3⟩ : ∃ M3, M3 = (((((M2.set x2 (some (.cells [.i .i64 0, .ns, .ns] false))).set (x2 + 1) (some (.cells [.i .i64 0, .ns, .ns] false))).set x2 (some (.cells [.i .i64 s.vars, B1, B2] false))).set
    (x2 + 1) (some (.cells [.i .i64 s.vars, C1, C2] false))).set 1 (some (.cells [.i .i64 s.vars, B1, B2] false))) := ⟨_, rfl⟩
  have hM3A : ∀ j, 5 ≤ j → j < x1 → M3 j = m1 j := fun j h1 h2 => by
    rw [hM3, Sto.sne _ _ _ _ (by omega), Sto.sne _ _ _ _ (by omega), Sto.sne _ _ _ _ (by omega), Sto.sne _ _ _ _ (by omega), Sto.sne _ _ _ _ (by omega)]
    exact dA j h1 h2
  obtain ⟨i1, f1, _⟩ := hXf M3 hM3A
  have f2 := hBf M3 hM3A
  have f0 : M3 1 = some (.cells [.i .i64 s.vars, B1, B2] false) := by rw [hM3, Sto.seq]
  unfold addV
  by_cases c1 : rightS s = false
  · rw [if_pos c1]
    simp +contextual (disch := omega) [Nat.add_assoc, Int.add_assoc, if_pos, if_neg, -Int.not_lt, -Int.not_le, -Nat.not_lt, -Nat.not_le, -List.length_flatMap, ansK hR', c1, d0, d1, hM3.symm, f0, f1, f2, cS]
  · rw [if_neg c1]
    have c1' : rightS s = true := by simpa using c1
    by_cases c2 : 60 < s.cl.length + l.length
    · rw [if_pos c2]
      simp +contextual (disch := omega) [Nat.add_assoc, Int.add_assoc, if_pos, if_neg, -Int.not_lt, -Int.not_le, -Nat.not_lt, -Nat.not_le, -List.length_flatMap, ansK hR', c1', c2, d0, d1, hM3.symm, f0, f1, f2, cS]
    · rw [if_neg c2]
      by_cases c3 : rightC s.vars l = false
      · rw [if_pos c3]
        simp +contextual (disch := omega) [Nat.add_assoc, Int.add_assoc, if_pos, if_neg, -Int.not_lt, -Int.not_le, -Nat.not_lt, -Nat.not_le, -List.length_flatMap, ansK hR', c1', c2, d0, d1, ansK hH, c3, hM3.symm, f0, f1, f2, cS]
      · rw [if_neg c3]
        have c3' : rightC s.vars l = true := by simpa using c3
        simp +contextual (disch := omega) [Nat.add_assoc, Int.add_assoc, if_pos, if_neg, -Int.not_lt, -Int.not_le, -Nat.not_lt, -Nat.not_le, -List.length_flatMap, ansK hR', c1', d0, d1, ansK hH, c3']
        rw [CallX_op (by rfl)]
        refine openg_w rfl rfl (.inl rfl) ?_
        have hRc : rightC s.vars s.cl = true := by
          unfold rightS at c1'
          simp only [Bool.and_eq_true] at c1'
          exact c1'.1.1
        have hRa := right_app hRc c3' (by omega)
        refine store_keeper_put.w (A := fun j => x1 + 1 ≤ j ∧ j < x2) (G := fun _ => False) (fun j h => by omega) (fun j h => h.elim) ⟨by omega, fun h => h, by omega⟩ (fun _ _ h => h) (by rw [Sto.seq]) (hX2.xa.up (fun j h => ?_) (fun j h => by omega)) (by rw [trips_sv]; exact slCells_sV _ l) rfl (Fr.sv _ _ l) z1 (by omega) ?_ hRa ?_
        · rw [Sto.sne _ _ _ _ (by omega), Sto.sne _ _ _ _ (by omega), Sto.sne _ _ _ _ (by omega), Sto.sne _ _ _ _ (by omega)]
          exact dB j h.1 h.2
        · intro c hc
          rcases List.mem_append.1 hc with hc | hc
          · exact hok.2 c hc
          · exact hf c hc
        · intro B m3 x3 h3x h3m h3r h3y
          have k2 : ∀ j, j < x2 → ¬ (x1 + 1 ≤ j) → m3 j = M2 j := fun j q1 q2 => by
            rw [h3m j (by omega) (by omega) (fun h => h) (by omega), Sto.sne _ _ _ _ (by omega), Sto.sne _ _ _ _ (by omega), Sto.sne _ _ _ _ (by omega), Sto.sne _ _ _ _ (by omega)]
          have k0 : m3 0 = some (.cells [.i .i64 s.vars, sV cC s.cl, sV cI s.md] false) := by rw [k2 0 (by omega) (by omega), d0]
          have k1 : m3 1 = some (.cells [.i .i64 0, .ns, .ns] false) := by rw [k2 1 (by omega) (by omega), d1]
          have kx : m3 x2 = some (.cells [.i .i64 s.vars, B1, B2] false) := by
            rw [h3m x2 (by omega) (by omega) (fun h => h) (by omega), Sto.sne _ _ _ _ (by omega), Sto.seq]
          have hfz : ctx.frz store_keeper_put.n = false := rfl
          rw [hfz]
          obtain ⟨ids, hz, hid⟩ := h3r.fz24
          have hC := core_Core.a s.vars (s.cl ++ l) (by simp; omega) (fun c hc => by
            rcases List.mem_append.1 hc with hc | hc
            · exact hok.2 c hc
            · exact hf c hc)
          rw [coreV, if_pos hRa] at hC
          by_cases c4 : (solveC s.vars.toNat (s.cl ++ l)).2.1 = false
          · have hlost : lostC s.vars.toNat (s.cl ++ l) = true := by unfold lostC; rw [c4]; rfl
            rw [if_pos hlost] at hC
            rw [if_pos c4]
            have hin : ∀ j, j < x1 + 1 ∨ j = x2 → j ∉ ids := fun j hj h => by
              rcases hid j h with h | h | h
              · omega
              · exact h
              · omega
            have a1 : ∀ u, aft u m3 ids 1 = some (.cells [.i .i64 0, .ns, .ns] false) := fun u => by rw [aft_none _ _ _ _ (hin 1 (by omega)), k1]
            have ax : ∀ u, aft u m3 ids x2 = some (.cells [.i .i64 s.vars, B1, B2] false) := fun u => by rw [aft_none _ _ _ _ (hin x2 (by omega)), kx]
            obtain ⟨u, hu⟩ : ∃ u : V, u = .tu [sV cI (intL (coreL s.vars.toNat (s.cl ++ l))), .i .i64 0] := ⟨_, rfl⟩
            obtain ⟨M5, hM5⟩ : ∃ M5, M5 = (aft u m3 ids).set 1 (some (.cells [.i .i64 s.vars, B1, B2] false)) := ⟨_, rfl⟩
            have hM5A : ∀ j, 5 ≤ j → j < x1 → M5 j = m1 j := fun j h1 h2 => by
              rw [hM5, Sto.sne _ _ _ _ (by omega), aft_none _ _ _ _ (hin j (by omega)), k2 j (by omega) (by omega)]
              exact dA j h1 h2
            obtain ⟨i5, f5, _⟩ := hXf M5 hM5A
            have f6 := hBf M5 hM5A
            have f7 : M5 1 = some (.cells [.i .i64 s.vars, B1, B2] false) := by rw [hM5, Sto.seq]
            rw [hu] at hM5
            simp +contextual (disch := omega) [Nat.add_assoc, Int.add_assoc, if_pos, if_neg, -Int.not_lt, -Int.not_le, -Nat.not_lt, -Nat.not_le, -List.length_flatMap, c4, k0, k1, kx, h3y, hz, ansK hC, a1, ax, hM5.symm, f5, f6, f7, cS]
          · rw [if_neg c4]
            have c4' : (solveC s.vars.toNat (s.cl ++ l)).2.1 = true := by simpa using c4
            simp +contextual (disch := omega) [Nat.add_assoc, Int.add_assoc, if_pos, if_neg, -Int.not_lt, -Int.not_le, -Nat.not_lt, -Nat.not_le, -List.length_flatMap, c4', k0, k1, kx, h3y]
            rw [CallX_op (by rfl)]
            refine openg_w rfl rfl (.inl rfl) ?_
            have hfo : ctx.frz store_own.n = false := rfl
            rw [hfo]
            refine store_own.w (s := ⟨s.vars, s.cl ++ l, (solveC s.vars.toNat (s.cl ++ l)).1⟩) h3r (Rl.sV (fun _ => False) _ _ |>.mono (fun j h => h.elim)) (fun j hj => by
              rcases hj with h | h | h
              · omega
              · exact h.elim
              · omega) (by simp; omega) (by have := solveC_len s.vars (s.cl ++ l) hRa; simp only; omega) (fun c hc => Nat.le_trans (okC_six ((right_ok hRa).2.2.2 c hc)) (by omega)) ?_
            intro E1 E2 gs' m5 x5 hx5 hm5 hX5 hB5 _
            have e1' : m5 1 = some (.cells [.i .i64 0, .ns, .ns] false) := by rw [hm5 1 (by omega), k1]
            obtain ⟨i8, f8, _⟩ := (hX5.up (m' := m5.set 1 (some (.cells [.i .i64 s.vars, E1, E2] false))) (Nat.le_refl _) (Nat.le_refl _) (fun j h1 h2 => by rw [Sto.sne _ _ _ _ (by omega)])).rc.fz24
            have f9 := (hB5.up (m' := m5.set 1 (some (.cells [.i .i64 s.vars, E1, E2] false))) (Nat.le_refl _) (fun j h1 h2 => by rw [Sto.sne _ _ _ _ (by omega)])).fz24
            simp +contextual (disch := omega) [Nat.add_assoc, Int.add_assoc, if_pos, if_neg, -Int.not_lt, -Int.not_le, -Nat.not_lt, -Nat.not_le, -List.length_flatMap, e1', f8, f9, cS]
end Pi
