/- Contracts: stores in memory (layer 11): the document's Add and New; what is told. -/
import Derived.Test.YtfdkpnckflmcaaaC11h
set_option linter.unusedSimpArgs false
set_option linter.unusedVariables false
namespace Pi
theorem IfK_no {p a b : Prop} (h : ¬ p) : IfK p a b = b := by simp [IfK, h]
def addT (s : St) (l : List C) : St := if rightS s = false then s else if 60 < s.cl.length + l.length then s else if rightC s.vars l = false then s else if (solveC s.vars.toNat (s.cl ++ l)).2.1 = false then s else ⟨s.vars, s.cl ++ l, (solveC s.vars.toNat (s.cl ++ l)).1⟩
def addW (s : St) (l : List C) : List Int := if rightS s = false then [] else if 60 < s.cl.length + l.length then [] else if rightC s.vars l = false then [] else if (solveC s.vars.toNat (s.cl ++ l)).2.1 = false then intL (coreL s.vars.toNat (s.cl ++ l)) else []
def addE (s : St) (l : List C) : Int := if rightS s = false then 1 else if 60 < s.cl.length + l.length then 2 else if rightC s.vars l = false then 1 else if (solveC s.vars.toNat (s.cl ++ l)).2.1 = false then 30 else 0
theorem addV_eq (s : St) (l : List C) : addV s l = .tu [.ag (cS (addT s l)), sV cI (addW s l), .i .i64 (addE s l)] := by
  unfold addV addT addW addE
  split
  · rfl
  · split
    · rfl
    · split
      · rfl
      · split <;> rfl
theorem ref11_New.w {m : Sto} {x : Nat} {K : CR → Sto → Nat → Prop} (n : Nat) (h1 : 1 ≤ n) (h2 : n ≤ 16)
    (hK : ∀ B m' x', x ≤ x' → (∀ j, j < x → m' j = m j) → Bf m' B cI 1 (noughts n) x x' → K (.ret (.tu [.ag [.i .i64 n, .ns, B], .i .i64 0])) m' x') :
    w ctx (envOf [.i .i64 n]) m x [] none none (RetG ctx ref11_New.c.rs K) ref11_New.c.code := by
  have hlt : ¬ (n : Int) < 1 := by omega
  have hgt : ¬ (16 : Int) < n := by omega
  have hcl : ((noughts n).flatMap cI).length = n := by rw [flatI_len, noughts_len]
  have htk := flatI_all (noughts_len n).symm
  simp +contextual (disch := omega) [Nat.add_assoc, Int.add_assoc, if_pos, if_neg, -Int.not_lt, -Int.not_le, -Nat.not_lt, -Nat.not_le, -List.length_flatMap, ref11_New.c, zeros_noughts, hlt, hgt, hcl, htk]
  refine hK _ _ _ (by omega) (fun j hj => ?_) (.mem (l := noughts n) (cs := (noughts n).flatMap cI) ?_ (by simp) (noughts_len n).symm (by omega) (by omega))
  · simp +contextual (disch := omega) [Nat.add_assoc, Int.add_assoc, if_pos, if_neg, -Int.not_lt, -Int.not_le, -Nat.not_lt, -Nat.not_le, -List.length_flatMap]
  · simp +contextual (disch := omega) [Nat.add_assoc, Int.add_assoc, if_pos, if_neg, -Int.not_lt, -Int.not_le, -Nat.not_lt, -Nat.not_le, -List.length_flatMap]
/-- What Add's second result may be. -/
def Why (W : V) (l : List Int) : Prop := (W = .ns ∧ l = []) ∨ W = sV cI l
set_option maxHeartbeats 1000000 in
theorem ref11_Add.w {m : Sto} {x : Nat} {K : CR → Sto → Nat → Prop} {A : Nat → Prop} {V1 V2 : V} {s : St} {fs : List V} (l : List C) (hi : Ic m V1 s.cl fs x) (hc : Rc A m V1 s.cl fs) (hm : Rl A m cI 1 V2 s.md) (hAx : ∀ j, A j → j < x) (hr : ∀ j ∈ refOf V2, j < x)
    (hs : s.Few) (hl : l.length ≤ 1000000) (hf : ∀ c ∈ l, c.frm.length ≤ 9223372036854775807)
    (hK : ∀ B1 B2 W gs m' x', x ≤ x' → (∀ j, j < x → m' j = m j) → Xc m' B1 (addT s l).cl gs x x' → Bf m' B2 cI 1 (addT s l).md x x' → Sep m' B1 B2 (addT s l).cl gs x' → Why W (addW s l) → K (.ret (.tu [.ag [.i .i64 (addT s l).vars, B1, B2], W, .i .i64 (addE s l)])) m' x') :
    w ctx (envOf [.ag [.i .i64 s.vars, V1, V2], sV cC l]) m x [] none none (RetG ctx ref11_Add.c.rs K) ref11_Add.c.code := by
  have hR := ref11_Right.a s hs.1
  obtain ⟨hok, z1, z2, z3⟩ := hs
  have hR' : Ans ctx ref11_Right.n [.ag [.i .i64 s.vars, sV cC s.cl, sV cI s.md]] (.b (rightS s)) := hR
  have hfo : ctx.frz ref11_own.n = false := rfl
  have hcat : ∀ c ∈ s.cl ++ l, c.frm.length ≤ 9223372036854775807 := fun c hc => by
    rcases List.mem_append.1 hc with hc | hc
    · exact hok.2 c hc
    · exact hf c hc
  obtain ⟨M0, hM0⟩ : ∃ M0 : Sto, M0 = (m.set x (some (.cells [.i .i64 s.vars, V1, V2] false))).set (x + 1) (some (.cells [.i .i64 0, .ns, .ns] false)) := ⟨_, rfl⟩
  have hMj : ∀ j, j < x → M0 j = m j := fun j hj => by rw [hM0, Sto.sne _ _ _ _ (by omega), Sto.sne _ _ _ _ (by omega)]
  have hMx : M0 x = some (.cells [.i .i64 s.vars, V1, V2] false) := by rw [hM0]; simp +contextual (disch := omega) [Nat.add_assoc, Int.add_assoc, if_pos, if_neg, -Int.not_lt, -Int.not_le, -Nat.not_lt, -Nat.not_le, -List.length_flatMap]
  have hM1 : M0 (x + 1) = some (.cells [.i .i64 0, .ns, .ns] false) := by rw [hM0]; simp +contextual (disch := omega) [Nat.add_assoc, Int.add_assoc, if_pos, if_neg, -Int.not_lt, -Int.not_le, -Nat.not_lt, -Nat.not_le, -List.length_flatMap]
  have hAg : Ag A m M0 := .eq fun j hj => hMj j (hAx j hj)
  obtain ⟨_, y1, _⟩ := (hc.up hAg (fun _ h => h)).fz24
  obtain ⟨_, y2, _⟩ := (hm.up hAg).fz24
  have hlen := hc.len
  have hiM : Ic M0 V1 s.cl fs x := hi.up hMj (Nat.le_refl _)
  have hfM : Fr A M0 fs s.cl := hc.fr.up hAg (fun _ h => h)
  have hmM : Rl A M0 cI 1 V2 s.md := hm.up hAg
  simp +contextual (disch := omega) [Nat.add_assoc, Int.add_assoc, if_pos, if_neg, -Int.not_lt, -Int.not_le, -Nat.not_lt, -Nat.not_le, -List.length_flatMap, ref11_Add.c, hM0.symm, hMx, hM1, y1, y2, ansK hR', hlen]
  by_cases c1 : rightS s = false
  · rw [IfK_pos c1, CallX_op (by rfl)]
    refine openg_w rfl rfl (.inl rfl) ?_
    rw [hfo]
    refine ref11_own.w (hiM.up (fun _ _ => rfl) (by omega)) hfM hmM (fun j h => by have := hAx j h; omega) (fun j h => by have := hr j h; omega) z1 z2 z3 ?_
    intro E1 E2 gs' m5 x5 hx5 hm5 hX5 hB5 hS5
    have e1 : m5 (x + 1) = some (.cells [.i .i64 0, .ns, .ns] false) := by rw [hm5 (x + 1) (by omega), hM1]
    simp +contextual (disch := omega) [Nat.add_assoc, Int.add_assoc, if_pos, if_neg, -Int.not_lt, -Int.not_le, -Nat.not_lt, -Nat.not_le, -List.length_flatMap, e1]
    have hT : addT s l = s := by simp only [addT, if_pos c1]
    have hE : addE s l = 1 := by simp only [addE, if_pos c1]
    have hW : addW s l = [] := by simp only [addW, if_pos c1]
    rw [hT, hE, hW] at hK
    refine hK _ _ _ gs' _ _ (by omega) (fun j hj => by rw [Sto.sne _ _ _ _ (by omega), hm5 j (by omega), hMj j hj]) ?_ ?_ (hS5.up hB5 (by omega) (fun j h1 h2 => by rw [Sto.sne _ _ _ _ (by omega)])) (.inl ⟨rfl, rfl⟩)
    · exact hX5.up (by omega) (by omega) (fun j h1 h2 => by rw [Sto.sne _ _ _ _ (by omega)])
    · refine Bf.low (Bf.up hB5 ?_ ?_) ?_
      · omega
      · intro j h1 h2; rw [Sto.sne _ _ _ _ (by omega)]
      · omega
  rw [IfK_no c1]
  have c1' : rightS s = true := by simpa using c1
  have hRc : rightC s.vars s.cl = true := by
    unfold rightS at c1'
    simp only [Bool.and_eq_true] at c1'
    exact c1'.1.1
  by_cases c2 : 60 < s.cl.length + l.length
  · simp +contextual (disch := omega) [Nat.add_assoc, Int.add_assoc, if_pos, if_neg, -Int.not_lt, -Int.not_le, -Nat.not_lt, -Nat.not_le, -List.length_flatMap, hMx, hM1, hlen]
    rw [IfK_pos (by omega), CallX_op (by rfl)]
    refine openg_w rfl rfl (.inl rfl) ?_
    rw [hfo]
    refine ref11_own.w (hiM.up (fun _ _ => rfl) (by omega)) hfM hmM (fun j h => by have := hAx j h; omega) (fun j h => by have := hr j h; omega) z1 z2 z3 ?_
    intro E1 E2 gs' m5 x5 hx5 hm5 hX5 hB5 hS5
    have e1 : m5 (x + 1) = some (.cells [.i .i64 0, .ns, .ns] false) := by rw [hm5 (x + 1) (by omega), hM1]
    simp +contextual (disch := omega) [Nat.add_assoc, Int.add_assoc, if_pos, if_neg, -Int.not_lt, -Int.not_le, -Nat.not_lt, -Nat.not_le, -List.length_flatMap, e1]
    have hT : addT s l = s := by simp only [addT, if_neg c1, if_pos c2]
    have hE : addE s l = 2 := by simp only [addE, if_neg c1, if_pos c2]
    have hW : addW s l = [] := by simp only [addW, if_neg c1, if_pos c2]
    rw [hT, hE, hW] at hK
    refine hK _ _ _ gs' _ _ (by omega) (fun j hj => by rw [Sto.sne _ _ _ _ (by omega), hm5 j (by omega), hMj j hj]) ?_ ?_ (hS5.up hB5 (by omega) (fun j h1 h2 => by rw [Sto.sne _ _ _ _ (by omega)])) (.inl ⟨rfl, rfl⟩)
    · exact hX5.up (by omega) (by omega) (fun j h1 h2 => by rw [Sto.sne _ _ _ _ (by omega)])
    · refine Bf.low (Bf.up hB5 ?_ ?_) ?_
      · omega
      · intro j h1 h2; rw [Sto.sne _ _ _ _ (by omega)]
      · omega
  simp +contextual (disch := omega) [Nat.add_assoc, Int.add_assoc, if_pos, if_neg, -Int.not_lt, -Int.not_le, -Nat.not_lt, -Nat.not_le, -List.length_flatMap, hMx, hM1, hlen]
  rw [IfK_no (by omega), CallX_op (by rfl)]
  refine openg_w rfl rfl (.inl rfl) ?_
  rw [hfo]
  refine ref11_own.w (hiM.up (fun _ _ => rfl) (by omega)) hfM hmM (fun j h => by have := hAx j h; omega) (fun j h => by have := hr j h; omega) z1 z2 z3 ?_
  intro B1 B2 gs m1 x1 hx1 hm1 hX1 hB1 _
  have e0 : m1 x = some (.cells [.i .i64 s.vars, V1, V2] false) := by rw [hm1 x (by omega), hMx]
  have e1 : m1 (x + 1) = some (.cells [.i .i64 0, .ns, .ns] false) := by rw [hm1 (x + 1) (by omega), hM1]
  simp +contextual (disch := omega) [Nat.add_assoc, Int.add_assoc, if_pos, if_neg, -Int.not_lt, -Int.not_le, -Nat.not_lt, -Nat.not_le, -List.length_flatMap, e0, e1, -apV_ns]
  have hA1 : Xa (fun j => x + 14 ≤ j ∧ j < x1) ((m1.set x1 (some (.cells [.i .i64 0, .ns, .ns] false))).set x1 (some (.cells [.i .i64 s.vars, B1, B2] false))) B1 s.cl gs :=
    hX1.xa.up (fun j h => by rw [Sto.sne _ _ _ _ (by omega), Sto.sne _ _ _ _ (by omega)]) (fun j h => h)
  refine hA1.ap (G := fun _ => False) (trips_sv l).symm rfl (Fr.sv _ _ l) (fun _ _ h => h) (by omega) (fun h => h) (by omega) ?_
  intro B ws m2 r1 r2 r3
  have r4 : ∀ j, j < x + 14 → m2 j = m1 j := fun j hj => by rw [r3 j (by omega) (by omega), Sto.sne _ _ _ _ (by omega), Sto.sne _ _ _ _ (by omega)]
  have q0 : m2 x = some (.cells [.i .i64 s.vars, V1, V2] false) := by rw [r4 x (by omega), e0]
  have q1 : m2 (x + 1) = some (.cells [.i .i64 0, .ns, .ns] false) := by rw [r4 (x + 1) (by omega), e1]
  have qA : ∀ j, j < x → m2 j = m j := fun j hj => by rw [r4 j (by omega), hm1 j (by omega), hMj j hj]
  have qx : m2 x1 = some (.cells [.i .i64 s.vars, B1, B2] false) := by rw [r3 x1 (by omega) (by omega), Sto.seq]
  have hnx : ∀ j, ((x + 14 ≤ j ∧ j < x1) ∨ False ∨ j = x1 + 5) → j ≠ x1 := fun j h => by have h := or3 h; omega
  have r2' := r2.up (m' := m2.set x1 (some (.cells [.i .i64 s.vars, B, B2] false))) (fun j h => by rw [Sto.sne _ _ _ _ (hnx j h)]) (fun _ h => h)
  obtain ⟨ids, hz, hid⟩ := r2'.rc.fz24
  have hin : ∀ j, j < x + 14 ∨ j = x1 → j ∉ ids := fun j hj h => by
    rcases hid j h with h | h | h
    · omega
    · exact h
    · omega
  have aj : ∀ u j, j < x + 14 → aft u (m2.set x1 (some (.cells [.i .i64 s.vars, B, B2] false))) ids j = m2 j := fun u j hj => by rw [aft_none _ _ _ _ (hin j (by omega)), Sto.sne _ _ _ _ (by omega)]
  have a0 : ∀ u, aft u (m2.set x1 (some (.cells [.i .i64 s.vars, B, B2] false))) ids x = some (.cells [.i .i64 s.vars, V1, V2] false) := fun u => by rw [aj u x (by omega), q0]
  have a1 : ∀ u, aft u (m2.set x1 (some (.cells [.i .i64 s.vars, B, B2] false))) ids (x + 1) = some (.cells [.i .i64 0, .ns, .ns] false) := fun u => by rw [aj u (x + 1) (by omega), q1]
  have ax : ∀ u, aft u (m2.set x1 (some (.cells [.i .i64 s.vars, B, B2] false))) ids x1 = some (.cells [.i .i64 s.vars, B, B2] false) := fun u => by rw [aft_none _ _ _ _ (hin x1 (by omega)), Sto.seq]
  have hS := ref09_Solve.a s.vars (s.cl ++ l) (by simp; omega) hcat
  by_cases c3 : rightC s.vars l = false
  · rw [solveV, if_neg (by rw [right_app_not c3 hRc (by omega)]; simp)] at hS
    simp +contextual (disch := omega) [Nat.add_assoc, Int.add_assoc, if_pos, if_neg, -Int.not_lt, -Int.not_le, -Nat.not_lt, -Nat.not_le, -List.length_flatMap, r1, qx, q0, r2.rc.stor, r2.rc.cells, hz, ansK hS, a0, a1, ax]
    rw [CallX_op (by rfl)]
    refine openg_w rfl rfl (.inl rfl) ?_
    rw [hfo]
    refine ref11_own.w (hi.up (fun j hj => (aj _ j (by omega)).trans (qA j hj)) (by omega)) (hc.fr.up (.eq fun j hj => (aj _ j (by have := hAx j hj; omega)).trans (qA j (hAx j hj))) (fun _ h => h)) (hm.up (.eq fun j hj => (aj _ j (by have := hAx j hj; omega)).trans (qA j (hAx j hj)))) (fun j h => by have := hAx j h; omega) (fun j h => by have := hr j h; omega) z1 z2 z3 ?_
    intro E1 E2 gs' m5 x5 hx5 hm5 hX5 hB5 hS5
    have e5 : m5 (x + 1) = some (.cells [.i .i64 0, .ns, .ns] false) := by rw [hm5 (x + 1) (by omega)]; exact a1 _
    simp +contextual (disch := omega) [Nat.add_assoc, Int.add_assoc, if_pos, if_neg, -Int.not_lt, -Int.not_le, -Nat.not_lt, -Nat.not_le, -List.length_flatMap, e5]
    have hT : addT s l = s := by simp only [addT, if_neg c1, if_neg c2, if_pos c3]
    have hE : addE s l = 1 := by simp only [addE, if_neg c1, if_neg c2, if_pos c3]
    have hW : addW s l = [] := by simp only [addW, if_neg c1, if_neg c2, if_pos c3]
    rw [hT, hE, hW] at hK
    refine hK _ _ _ gs' _ _ (by omega) (fun j hj => by rw [Sto.sne _ _ _ _ (by omega), hm5 j (by omega), aj _ j (by omega), qA j hj]) ?_ ?_ (hS5.up hB5 (by omega) (fun j h1 h2 => by rw [Sto.sne _ _ _ _ (by omega)])) (.inl ⟨rfl, rfl⟩)
    · exact hX5.up (by omega) (by omega) (fun j h1 h2 => by rw [Sto.sne _ _ _ _ (by omega)])
    · refine Bf.low (Bf.up hB5 ?_ ?_) ?_
      · omega
      · intro j h1 h2; rw [Sto.sne _ _ _ _ (by omega)]
      · omega
  have hRa := right_app hRc (by simpa using c3) (by omega)
  rw [solveV, if_pos hRa] at hS
  by_cases c4 : (solveC s.vars.toNat (s.cl ++ l)).2.1 = false
  · rw [c4] at hS
    have hC := ref10_Core.a s.vars (s.cl ++ l) (by simp; omega) hcat
    have hlost : lostC s.vars.toNat (s.cl ++ l) = true := by unfold lostC; rw [c4]; rfl
    rw [coreV, if_pos hRa, if_pos hlost] at hC
    have bj : ∀ u v j, j < x + 14 → aft v (aft u (m2.set x1 (some (.cells [.i .i64 s.vars, B, B2] false))) ids) ids j = m2 j := fun u v j hj => by rw [aft_none _ _ _ _ (hin j (by omega)), aj u j hj]
    have b0 : ∀ u v, aft v (aft u (m2.set x1 (some (.cells [.i .i64 s.vars, B, B2] false))) ids) ids x = some (.cells [.i .i64 s.vars, V1, V2] false) := fun u v => by rw [bj u v x (by omega), q0]
    have b1 : ∀ u v, aft v (aft u (m2.set x1 (some (.cells [.i .i64 s.vars, B, B2] false))) ids) ids (x + 1) = some (.cells [.i .i64 0, .ns, .ns] false) := fun u v => by rw [bj u v (x + 1) (by omega), q1]
    simp +contextual (disch := omega) [Nat.add_assoc, Int.add_assoc, if_pos, if_neg, -Int.not_lt, -Int.not_le, -Nat.not_lt, -Nat.not_le, -List.length_flatMap, r1, qx, q0, r2.rc.stor, r2.rc.cells, hz, ansK hS, a0, a1, ax, ansK hC, b0, b1]
    rw [CallX_op (by rfl)]
    refine openg_w rfl rfl (.inl rfl) ?_
    rw [hfo]
    refine ref11_own.w (hi.up (fun j hj => (bj _ _ j (by omega)).trans (qA j hj)) (by omega)) (hc.fr.up (.eq fun j hj => (bj _ _ j (by have := hAx j hj; omega)).trans (qA j (hAx j hj))) (fun _ h => h)) (hm.up (.eq fun j hj => (bj _ _ j (by have := hAx j hj; omega)).trans (qA j (hAx j hj)))) (fun j h => by have := hAx j h; omega) (fun j h => by have := hr j h; omega) z1 z2 z3 ?_
    intro E1 E2 gs' m5 x5 hx5 hm5 hX5 hB5 hS5
    have e5 : m5 (x + 1) = some (.cells [.i .i64 0, .ns, .ns] false) := by rw [hm5 (x + 1) (by omega)]; exact b1 _ _
    simp +contextual (disch := omega) [Nat.add_assoc, Int.add_assoc, if_pos, if_neg, -Int.not_lt, -Int.not_le, -Nat.not_lt, -Nat.not_le, -List.length_flatMap, e5]
    have c3' : ¬ rightC s.vars l = false := c3
    have hT : addT s l = s := by simp only [addT, if_neg c1, if_neg c2, if_neg c3', if_pos c4]
    have hE : addE s l = 30 := by simp only [addE, if_neg c1, if_neg c2, if_neg c3', if_pos c4]
    have hW : addW s l = intL (coreL s.vars.toNat (s.cl ++ l)) := by simp only [addW, if_neg c1, if_neg c2, if_neg c3', if_pos c4]
    rw [hT, hE, hW] at hK
    refine hK _ _ _ gs' _ _ (by omega) (fun j hj => by rw [Sto.sne _ _ _ _ (by omega), hm5 j (by omega), bj _ _ j (by omega), qA j hj]) ?_ ?_ (hS5.up hB5 (by omega) (fun j h1 h2 => by rw [Sto.sne _ _ _ _ (by omega)])) (.inr rfl)
    · exact hX5.up (by omega) (by omega) (fun j h1 h2 => by rw [Sto.sne _ _ _ _ (by omega)])
    · refine Bf.low (Bf.up hB5 ?_ ?_) ?_
      · omega
      · intro j h1 h2; rw [Sto.sne _ _ _ _ (by omega)]
      · omega
  · have c4' : (solveC s.vars.toNat (s.cl ++ l)).2.1 = true := by simpa using c4
    rw [c4'] at hS
    simp +contextual (disch := omega) [Nat.add_assoc, Int.add_assoc, if_pos, if_neg, -Int.not_lt, -Int.not_le, -Nat.not_lt, -Nat.not_le, -List.length_flatMap, r1, qx, q0, r2.rc.stor, r2.rc.cells, hz, ansK hS, a0, a1, ax]
    have hag : Ag (fun j => (x + 14 ≤ j ∧ j < x1) ∨ False ∨ j = x1 + 5) (m2.set x1 (some (.cells [.i .i64 s.vars, B, B2] false))) ((aft (.tu [sV cI (solveC s.vars.toNat (s.cl ++ l)).1, .b true, .i .i64 (solveC s.vars.toNat (s.cl ++ l)).2.2, .i .i64 0])
      (m2.set x1 (some (.cells [.i .i64 s.vars, B, B2] false))) ids).set x1 (some (.cells [.i .i64 s.vars, B, sV cI (solveC s.vars.toNat (s.cl ++ l)).1] false))) := fun j hj => by rw [Sto.sne _ _ _ _ (hnx j hj), bare_aft]
    rw [CallX_op (by rfl)]
    refine openg_w rfl rfl (.inl rfl) ?_
    rw [hfo]
    refine ref11_own.w (s := ⟨s.vars, s.cl ++ l, (solveC s.vars.toNat (s.cl ++ l)).1⟩) (r2'.ic _ ids (fun j hj => Sto.sne _ _ _ _ (hnx j hj)) (fun j h => by have h := or3 h; omega)) (r2'.rc.fr.up hag (fun j h => h)) (Rl.sV (fun j => (x + 14 ≤ j ∧ j < x1) ∨ False ∨ j = x1 + 5) _ _) (fun j h => by have h := or3 h; omega) (by simp) (by simp; omega) (by have := solveC_len s.vars (s.cl ++ l) hRa; simp only; omega) (fun c hc => Nat.le_trans (okC_six ((right_ok hRa).2.2.2 c hc)) (by omega)) ?_
    intro E1 E2 gs' m5 x5 hx5 hm5 hX5 hB5 hS5
    have e5 : m5 (x + 1) = some (.cells [.i .i64 0, .ns, .ns] false) := by rw [hm5 (x + 1) (by omega), Sto.sne _ _ _ _ (by omega)]; exact a1 _
    simp +contextual (disch := omega) [Nat.add_assoc, Int.add_assoc, if_pos, if_neg, -Int.not_lt, -Int.not_le, -Nat.not_lt, -Nat.not_le, -List.length_flatMap, e5]
    have c3' : ¬ rightC s.vars l = false := c3
    have hT : addT s l = ⟨s.vars, s.cl ++ l, (solveC s.vars.toNat (s.cl ++ l)).1⟩ := by simp only [addT, if_neg c1, if_neg c2, if_neg c3', if_neg c4]
    have hE : addE s l = 0 := by simp only [addE, if_neg c1, if_neg c2, if_neg c3', if_neg c4]
    have hW : addW s l = [] := by simp only [addW, if_neg c1, if_neg c2, if_neg c3', if_neg c4]
    rw [hT, hE, hW] at hK
    refine hK _ _ _ gs' _ _ (by omega) (fun j hj => by rw [Sto.sne _ _ _ _ (by omega), hm5 j (by omega), Sto.sne _ _ _ _ (by omega), aj _ j (by omega), qA j hj]) ?_ ?_ (hS5.up hB5 (by omega) (fun j h1 h2 => by rw [Sto.sne _ _ _ _ (by omega)])) (.inl ⟨rfl, rfl⟩)
    · exact hX5.up (by omega) (by omega) (fun j h1 h2 => by rw [Sto.sne _ _ _ _ (by omega)])
    · refine Bf.low (Bf.up hB5 ?_ ?_) ?_
      · omega
      · intro j h1 h2; rw [Sto.sne _ _ _ _ (by omega)]
      · omega
end Pi
