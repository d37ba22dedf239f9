/- Contracts: terms (layer 13): terms by numbers, the maker. -/
import Derived.Test.YtbkkigmlkafeiaaC14b
import Derived.Test.YtbkkigmlkafeiaaC02k
import Derived.Test.YtbkkigmlkafeiaaC03a
set_option linter.unusedSimpArgs false
set_option linter.unusedVariables false
namespace Pi
theorem FzAt.one {m : Sto} {lo x k : Nat} {v u : V} (h : FzAt m lo x k [v] [u]) (d : Nat) (hd : k ≤ d) : ∃ ids, frzW (der m d) v = some (u, ids) ∧ ∀ i ∈ ids, lo ≤ i ∧ i < x := by
  obtain ⟨ids, e, hi⟩ := h.ids d hd
  rw [frzL_cons] at e
  cases h1 : frzW (der m d) v with
  | none => rw [h1] at e; simp at e
  | some p =>
    rw [h1] at e
    simp at e
    obtain ⟨e1, e2⟩ := e
    exact ⟨ids, by rw [← e1, ← e2], hi⟩
theorem FzTd {m : Sto} {lo x d0 d : Nat} {k n : Int} {ls : List L} {ks : List Tm} {B C : V} (hB : Bn m B cL 3 ls lo x d0) (hC : FzAt m lo x d [C] [sV cT ks]) (hd : d0 + 1 ≤ d) : FzAt m lo x d [.i .i64 k, .i .i64 n, B, C] (cT (.mk k n ls ks)) := by
  rw [cT_of]
  have z := (FzAt.fr (m := m) (lo := lo) (x := x) (k := d) (cs := [.i .i64 k, .i .i64 n]) (by simp)).app ((hB.at.up (Nat.le_refl x) hd (fun _ _ _ => rfl)).app hC)
  simpa using z
set_option maxHeartbeats 8000000 in
theorem law13_Term.w (l : List Nat) (hb : Byt l) (a : Nat) : ∀ (d : Nat), d ≤ 3 → ∀ (v i : Nat) {m : Sto} {x : Nat} {K : CR → Sto → Nat → Prop}, 0 < v → v + d ≤ 20 → i + 300 * 4 ^ d ≤ 100000000 → a < x → m a = some (.cells [sV cU l, .i .i64 i] false) →
    MadeT l a x m (mkT l d v i) K → Pi.w ctx (envOf [.p a 0, .i .i64 v, .i .i64 ((d : Int) + 1)]) m x [] none none (RetG ctx law13_Term.c.rs K) law13_Term.c.code := by
  intro d
  induction d with
  | zero =>
    intro hd v i m x K hv hvd hi hax hm hK
    simp +contextual (disch := omega) [Nat.add_assoc, Int.add_assoc, if_pos, if_neg, -Int.not_lt, -Int.not_le, -Nat.not_lt, -Nat.not_le, -List.length_flatMap, law13_Term.c]
    rw [CallX_op (by rfl)]
    refine pick_w (l := l) (i := i) (n := 12) (by simp +contextual (disch := omega) [Nat.add_assoc, Int.add_assoc, if_pos, if_neg, -Int.not_lt, -Int.not_le, -Nat.not_lt, -Nat.not_le, -List.length_flatMap, hm]) hb (by omega) (by omega) ?_
    intro x1 hx1
    simp only [mkT] at hK
    have hk := pickS_lt l i 12 (by omega)
    generalize pickS l i 12 = k0 at hk hK
    have hk4 : (k0 : Int).tmod 4 = ((k0 % 4 : Nat) : Int) := by rw [Int.tmod_eq_emod_of_nonneg (by omega)]; rfl
    have hq : k0 % 4 < 4 := Nat.mod_lt _ (by omega)
    generalize k0 % 4 = q at hk4 hq hK
    rcases (by omega : q = 0 ∨ q = 1 ∨ q = 2 ∨ q = 3) with rfl | rfl | rfl | rfl
    · rw [show leafT l v 0 (i + 1) = (.mk 1 (pickS l (i + 1) v : Nat) [] [], i + 1 + 1) from rfl] at hK
      simp +contextual (disch := omega) [Nat.add_assoc, Int.add_assoc, if_pos, if_neg, -Int.not_lt, -Int.not_le, -Nat.not_lt, -Nat.not_le, -List.length_flatMap, hk4, hv]
      rw [CallX_op (by rfl)]
      refine pick_w (l := l) (i := i + 1) (n := v) (by simp +contextual (disch := omega) [Nat.add_assoc, Int.add_assoc, if_pos, if_neg, -Int.not_lt, -Int.not_le, -Nat.not_lt, -Nat.not_le, -List.length_flatMap]) hb (by omega) (by omega) ?_
      intro x2 hx2
      simp +contextual (disch := omega) [Nat.add_assoc, Int.add_assoc, if_pos, if_neg, -Int.not_lt, -Int.not_le, -Nat.not_lt, -Nat.not_le, -List.length_flatMap, ansK (law13_Var.a _)]
      refine hK _ _ _ (cT_len _) ?_ (fun j h1 h2 => ?_) (by omega) ((FzAt.self (fun D => cT_fz _ D)).up (Nat.le_refl _) (by omega) (fun _ _ _ => rfl))
      · simp +contextual (disch := omega) [Nat.add_assoc, Int.add_assoc, if_pos, if_neg, -Int.not_lt, -Int.not_le, -Nat.not_lt, -Nat.not_le, -List.length_flatMap]
      · simp +contextual (disch := omega) [Nat.add_assoc, Int.add_assoc, if_pos, if_neg, -Int.not_lt, -Int.not_le, -Nat.not_lt, -Nat.not_le, -List.length_flatMap]
    · rw [show leafT l v 1 (i + 1) = (.mk 1 (pickS l (i + 1) v : Nat) [] [], i + 1 + 1) from rfl] at hK
      simp +contextual (disch := omega) [Nat.add_assoc, Int.add_assoc, if_pos, if_neg, -Int.not_lt, -Int.not_le, -Nat.not_lt, -Nat.not_le, -List.length_flatMap, hk4, hv]
      rw [CallX_op (by rfl)]
      refine pick_w (l := l) (i := i + 1) (n := v) (by simp +contextual (disch := omega) [Nat.add_assoc, Int.add_assoc, if_pos, if_neg, -Int.not_lt, -Int.not_le, -Nat.not_lt, -Nat.not_le, -List.length_flatMap]) hb (by omega) (by omega) ?_
      intro x2 hx2
      simp +contextual (disch := omega) [Nat.add_assoc, Int.add_assoc, if_pos, if_neg, -Int.not_lt, -Int.not_le, -Nat.not_lt, -Nat.not_le, -List.length_flatMap, ansK (law13_Var.a _)]
      refine hK _ _ _ (cT_len _) ?_ (fun j h1 h2 => ?_) (by omega) ((FzAt.self (fun D => cT_fz _ D)).up (Nat.le_refl _) (by omega) (fun _ _ _ => rfl))
      · simp +contextual (disch := omega) [Nat.add_assoc, Int.add_assoc, if_pos, if_neg, -Int.not_lt, -Int.not_le, -Nat.not_lt, -Nat.not_le, -List.length_flatMap]
      · simp +contextual (disch := omega) [Nat.add_assoc, Int.add_assoc, if_pos, if_neg, -Int.not_lt, -Int.not_le, -Nat.not_lt, -Nat.not_le, -List.length_flatMap]
    · rw [show leafT l v 2 (i + 1) = (.mk 2 0 [(mkS l 3 2 3 (i + 1)).1] [], (mkS l 3 2 3 (i + 1)).2) from rfl] at hK
      simp +contextual (disch := omega) [Nat.add_assoc, Int.add_assoc, if_pos, if_neg, -Int.not_lt, -Int.not_le, -Nat.not_lt, -Nat.not_le, -List.length_flatMap, hk4]
      rw [CallX_op (by rfl)]
      refine made_w l hb 3 2 (by omega) (by omega) a 2 (by omega) (i + 1) (by omega) (by omega) (by simp +contextual (disch := omega) [Nat.add_assoc, Int.add_assoc, if_pos, if_neg, -Int.not_lt, -Int.not_le, -Nat.not_lt, -Nat.not_le, -List.length_flatMap]) ?_
      intro cs m' x' h1 h2 h3 h4 h5
      obtain ⟨ids, e, hids⟩ := h5.ids 40 (by omega)
      have hA : ∀ U j, j ≤ x1 → aft U m' ids j = m' j := fun U j hj => aft_none _ _ _ _ (fun hc => by have := hids _ hc; omega)
      have hx : m' x = some (.cells [.i .i64 0, .i .i64 0, .ns, .ns] false) := (h3 x (by omega) (by omega)).trans (by simp +contextual (disch := omega) [Nat.add_assoc, Int.add_assoc, if_pos, if_neg, -Int.not_lt, -Int.not_le, -Nat.not_lt, -Nat.not_le, -List.length_flatMap])
      simp +contextual (disch := omega) [Nat.add_assoc, Int.add_assoc, if_pos, if_neg, -Int.not_lt, -Int.not_le, -Nat.not_lt, -Nat.not_le, -List.length_flatMap, e, h1, ansK (law13_Sort.a _), hA, hx]
      refine hK _ _ _ (cT_len _) ?_ (fun j q1 q2 => ?_) (by omega) ((FzAt.self (fun D => cT_fz _ D)).up (Nat.le_refl _) (by omega) (fun _ _ _ => rfl))
      · rw [Sto.sne _ _ _ _ (by omega), hA _ _ (by omega), h2]
      · rw [Sto.sne _ _ _ _ (by omega), hA _ _ (by omega), h3 j (by omega) q2]
        simp +contextual (disch := omega) [Nat.add_assoc, Int.add_assoc, if_pos, if_neg, -Int.not_lt, -Int.not_le, -Nat.not_lt, -Nat.not_le, -List.length_flatMap]
    · rw [show leafT l v 3 (i + 1) = (.mk 3 (pickS l (i + 1) 4 : Nat) (lvlsT l (pickS l (i + 2) 3) (i + 3)).1 [], (lvlsT l (pickS l (i + 2) 3) (i + 3)).2) from rfl] at hK
      simp +contextual (disch := omega) [Nat.add_assoc, Int.add_assoc, if_pos, if_neg, -Int.not_lt, -Int.not_le, -Nat.not_lt, -Nat.not_le, -List.length_flatMap, hk4]
      rw [CallX_op (by rfl)]
      refine pick_w (l := l) (i := i + 1) (n := 4) (by simp +contextual (disch := omega) [Nat.add_assoc, Int.add_assoc, if_pos, if_neg, -Int.not_lt, -Int.not_le, -Nat.not_lt, -Nat.not_le, -List.length_flatMap]) hb (by omega) (by omega) ?_
      intro x2 hx2
      simp +contextual (disch := omega) [Nat.add_assoc, Int.add_assoc, if_pos, if_neg, -Int.not_lt, -Int.not_le, -Nat.not_lt, -Nat.not_le, -List.length_flatMap]
      rw [CallX_op (by rfl)]
      refine pick_w (l := l) (i := i + 2) (n := 3) (by simp +contextual (disch := omega) [Nat.add_assoc, Int.add_assoc, if_pos, if_neg, -Int.not_lt, -Int.not_le, -Nat.not_lt, -Nat.not_le, -List.length_flatMap]) hb (by omega) (by omega) ?_
      intro x3 hx3
      simp +contextual (disch := omega) [Nat.add_assoc, Int.add_assoc, if_pos, if_neg, -Int.not_lt, -Int.not_le, -Nat.not_lt, -Nat.not_le, -List.length_flatMap]
      have hc3 := pickS_lt l (i + 2) 3 (by omega)
      generalize pickS l (i + 2) 3 = c at hc3 hK ⊢
      generalize pickS l (i + 1) 4 = N at hK ⊢
      generalize hM : Sto.set _ a _ = M
      have hMa : M a = some (.cells [sV cU l, .i .i64 ((i + 3 : Nat) : Int)] false) := by rw [← hM, Sto.seq]; simp
      have hMy : M (x2 + 1) = some (.cells [.i .i64 3, .i .i64 N, .ns, .ns] false) := by rw [← hM]; simp +contextual (disch := omega) [Nat.add_assoc, Int.add_assoc, if_pos, if_neg, -Int.not_lt, -Int.not_le, -Nat.not_lt, -Nat.not_le, -List.length_flatMap]
      have hMx : M x = some (.cells [.i .i64 0, .i .i64 0, .ns, .ns] false) := by rw [← hM]; simp +contextual (disch := omega) [Nat.add_assoc, Int.add_assoc, if_pos, if_neg, -Int.not_lt, -Int.not_le, -Nat.not_lt, -Nat.not_le, -List.length_flatMap]
      have hMj : ∀ j, j < x → j ≠ a → M j = m j := fun j h1 h2 => by rw [← hM]; simp +contextual (disch := omega) [Nat.add_assoc, Int.add_assoc, if_pos, if_neg, -Int.not_lt, -Int.not_le, -Nat.not_lt, -Nat.not_le, -List.length_flatMap]
      clear hM
      have hlb := (lvlsT_bd l c (i + 3)).1
      refine while_w (fun k e m' x' => ∃ B vs, ∃ ii : Nat, (e 0 = .p a 0 ∧ e 6 = .p x 0 ∧ e 8 = .p (x2 + 1) 0 ∧ e 9 = .i .i64 k) ∧ x2 + 2 ≤ x' ∧ m' (x2 + 1) = some (.cells [.i .i64 3, .i .i64 N, B, .ns] false) ∧ m' x = some (.cells [.i .i64 0, .i .i64 0, .ns, .ns] false) ∧
        Bn m' B cL 3 vs (x2 + 2) x' 3 ∧ vs.length + k = c ∧ m' a = some (.cells [sV cU l, .i .i64 ii] false) ∧ ii + 64 * k ≤ i + 3 + 64 * c ∧ lvlsT l c (i + 3) = (vs ++ (lvlsT l k ii).1, (lvlsT l k ii).2) ∧ (∀ j, j < x → j ≠ a → m' j = m j)) c ?_ ?_
      · exact ⟨.ns, [], i + 3, by simp +contextual (disch := omega) [Nat.add_assoc, Int.add_assoc, if_pos, if_neg, -Int.not_lt, -Int.not_le, -Nat.not_lt, -Nat.not_le, -List.length_flatMap], by omega, hMy, hMx, Bn.nil, by simp, hMa, by omega, by simp, hMj⟩
      · rintro k e m' x' ⟨B, vs, ii, ⟨e0, e6, e8, e9⟩, w1, w2, w3, w4, w5, w6, w7, w8, w9⟩
        cases k with
        | zero =>
          simp +contextual (disch := omega) [Nat.add_assoc, Int.add_assoc, if_pos, if_neg, -Int.not_lt, -Int.not_le, -Nat.not_lt, -Nat.not_le, -List.length_flatMap, law13_Term.b1, e0, e6, e8, e9, w2, w3]
          refine hK _ _ _ rfl ?_ (fun j q1 q2 => ?_) (by omega) ?_
          · rw [Sto.sne _ _ _ _ (by omega), w6, w8]; simp [lvlsT]
          · rw [Sto.sne _ _ _ _ (by omega), w9 j q1 q2]
          · rw [w8]
            simp only [lvlsT, List.append_nil]
            generalize hM10 : Sto.set _ x _ = M10
            refine (FzTd (d := 5) (w4.up (m' := M10) (x' := x' + 4) (by omega) (fun j r1 r2 => by rw [← hM10, Sto.sne _ _ _ _ (by omega)])) FzN (by omega)).low (by omega)
        | succ k =>
          have hmb := mkS_bd l 3 2 2 ii
          simp +contextual (disch := omega) [Nat.add_assoc, Int.add_assoc, if_pos, if_neg, -Int.not_lt, -Int.not_le, -Nat.not_lt, -Nat.not_le, -List.length_flatMap, law13_Term.b1, e0, e6, e8, e9, w2]
          rw [CallQ_op (by rfl)]
          refine level_q l hb 3 2 (by omega) (by omega) a 1 (by omega) ii (by omega) (by omega) w6 ?_
          intro cs ws ids x5 q1 q2 q3 q4 q5 q6 q7 q8
          have hws : ∀ (a : Nat) (b : Option PObj), (a, b) ∈ ws → ¬ a = x2 + 1 := fun a' b h e => by
            have h1 : a' ∈ ids := by rw [← q8]; exact List.mem_map.2 ⟨(a', b), h, rfl⟩
            have := q7 a' h1
            omega
          simp +contextual (disch := omega) [Nat.add_assoc, Int.add_assoc, if_pos, if_neg, -Int.not_lt, -Int.not_le, -Nat.not_lt, -Nat.not_le, -List.length_flatMap]
          rw [IfK_pos ⟨hws, by omega⟩, List.take_of_length_le (by omega)]
          generalize hM2 : Sto.set (m'.app ws) x5 _ = M2
          have hj2 : ∀ j, j < x' → j ≠ a → M2 j = m' j := fun j h1 h2 => by rw [← hM2, Sto.sne _ _ _ _ (by omega), q3 j (by omega) h2]
          have hM2a : M2 a = some (.cells [sV cU l, .i .i64 ((mkS l 3 2 2 ii).2 : Nat)] false) := by rw [← hM2, Sto.sne _ _ _ _ (by omega), q2]
          refine w4.ap (mkS l 3 2 2 ii).1 (fun j h1 h2 => hj2 j h2 (by omega)) (by omega) (by omega) (q6.wide (by omega) (by omega) (fun j h1 h2 => by rw [← hM2, Sto.sne _ _ _ _ (by omega)])) q1 rfl (by omega) ?_
          intro B' ws2 M3 z0 z1 z2 z3
          have t0 := (z2 x (by omega)).trans ((hj2 x (by omega) (by omega)).trans w3)
          have t1 := (z2 (x2 + 1) (by omega)).trans ((hj2 (x2 + 1) (by omega) (by omega)).trans w2)
          simp +contextual (disch := omega) [Nat.add_assoc, Int.add_assoc, if_pos, if_neg, -Int.not_lt, -Int.not_le, -Nat.not_lt, -Nat.not_le, -List.length_flatMap, z0, t0, t1, z1.stor, z1.cells, e0, e6, e8, e9]
          refine ⟨k, by omega, rfl, by omega, vs ++ [(mkS l 3 2 2 ii).1], z1.up (by omega) (fun j h1 h2 => Sto.sne _ _ _ _ (by omega)), by simp; omega, (mkS l 3 2 2 ii).2, (z2 a (by omega)).trans hM2a, by omega, ?_, fun j h1 h2 => ?_⟩
          · rw [w8]; simp [lvlsT]
          · rw [z2 j (by omega), hj2 j (by omega) h2, w9 j h1 h2]
  | succ d ih =>
    intro hd v i m x K hv hvd hi hax hm hK
    have hfT : ctx.frz law13_Term.n = false := rfl
    have hp4 : 300 * 4 ^ (d + 1) = 4 * (300 * 4 ^ d) := by rw [Nat.pow_succ]; omega
    have hp1 : 300 ≤ 300 * 4 ^ d := by have : 1 ≤ 4 ^ d := Nat.one_le_pow _ _ (by omega); omega
    have hd1 : (d : Int) + 2 - 1 = d + 1 := by omega
    simp +contextual (disch := omega) [Nat.add_assoc, Int.add_assoc, if_pos, if_neg, -Int.not_lt, -Int.not_le, -Nat.not_lt, -Nat.not_le, -List.length_flatMap, law13_Term.c]
    rw [CallX_op (by rfl)]
    refine pick_w (l := l) (i := i) (n := 12) (by simp +contextual (disch := omega) [Nat.add_assoc, Int.add_assoc, if_pos, if_neg, -Int.not_lt, -Int.not_le, -Nat.not_lt, -Nat.not_le, -List.length_flatMap, hm]) hb (by omega) (by omega) ?_
    intro x1 hx1
    simp only [mkT] at hK
    have hk := pickS_lt l i 12 (by omega)
    generalize pickS l i 12 = k0 at hk hK
    have hd2 : ¬ (d : Int) + 2 < 2 := by omega
    have b1 := mkT_bd l d v (i + 1)
    have b2 := mkT_bd l d v (mkT l d v (i + 1)).2
    have b3 := mkT_bd l d (v + 1) (mkT l d v (i + 1)).2
    have b4 := mkT_bd l d (v + 1) (mkT l d v (mkT l d v (i + 1)).2).2
    by_cases h4 : k0 < 4
    · rw [if_pos h4] at hK
      rcases (by omega : k0 = 0 ∨ k0 = 1 ∨ k0 = 2 ∨ k0 = 3) with rfl | rfl | rfl | rfl
      · rw [show leafT l v 0 (i + 1) = (.mk 1 (pickS l (i + 1) v : Nat) [] [], i + 1 + 1) from rfl] at hK
        simp +contextual (disch := omega) [Nat.add_assoc, Int.add_assoc, if_pos, if_neg, -Int.not_lt, -Int.not_le, -Nat.not_lt, -Nat.not_le, -List.length_flatMap, hv]
        rw [CallX_op (by rfl)]
        refine pick_w (l := l) (i := i + 1) (n := v) (by simp +contextual (disch := omega) [Nat.add_assoc, Int.add_assoc, if_pos, if_neg, -Int.not_lt, -Int.not_le, -Nat.not_lt, -Nat.not_le, -List.length_flatMap]) hb (by omega) (by omega) ?_
        intro x2 hx2
        simp +contextual (disch := omega) [Nat.add_assoc, Int.add_assoc, if_pos, if_neg, -Int.not_lt, -Int.not_le, -Nat.not_lt, -Nat.not_le, -List.length_flatMap, ansK (law13_Var.a _)]
        refine hK _ _ _ (cT_len _) ?_ (fun j h1 h2 => ?_) (by omega) ((FzAt.self (fun D => cT_fz _ D)).up (Nat.le_refl _) (by omega) (fun _ _ _ => rfl))
        · simp +contextual (disch := omega) [Nat.add_assoc, Int.add_assoc, if_pos, if_neg, -Int.not_lt, -Int.not_le, -Nat.not_lt, -Nat.not_le, -List.length_flatMap]
        · simp +contextual (disch := omega) [Nat.add_assoc, Int.add_assoc, if_pos, if_neg, -Int.not_lt, -Int.not_le, -Nat.not_lt, -Nat.not_le, -List.length_flatMap]
      · rw [show leafT l v 1 (i + 1) = (.mk 1 (pickS l (i + 1) v : Nat) [] [], i + 1 + 1) from rfl] at hK
        simp +contextual (disch := omega) [Nat.add_assoc, Int.add_assoc, if_pos, if_neg, -Int.not_lt, -Int.not_le, -Nat.not_lt, -Nat.not_le, -List.length_flatMap, hv]
        rw [CallX_op (by rfl)]
        refine pick_w (l := l) (i := i + 1) (n := v) (by simp +contextual (disch := omega) [Nat.add_assoc, Int.add_assoc, if_pos, if_neg, -Int.not_lt, -Int.not_le, -Nat.not_lt, -Nat.not_le, -List.length_flatMap]) hb (by omega) (by omega) ?_
        intro x2 hx2
        simp +contextual (disch := omega) [Nat.add_assoc, Int.add_assoc, if_pos, if_neg, -Int.not_lt, -Int.not_le, -Nat.not_lt, -Nat.not_le, -List.length_flatMap, ansK (law13_Var.a _)]
        refine hK _ _ _ (cT_len _) ?_ (fun j h1 h2 => ?_) (by omega) ((FzAt.self (fun D => cT_fz _ D)).up (Nat.le_refl _) (by omega) (fun _ _ _ => rfl))
        · simp +contextual (disch := omega) [Nat.add_assoc, Int.add_assoc, if_pos, if_neg, -Int.not_lt, -Int.not_le, -Nat.not_lt, -Nat.not_le, -List.length_flatMap]
        · simp +contextual (disch := omega) [Nat.add_assoc, Int.add_assoc, if_pos, if_neg, -Int.not_lt, -Int.not_le, -Nat.not_lt, -Nat.not_le, -List.length_flatMap]
      · rw [show leafT l v 2 (i + 1) = (.mk 2 0 [(mkS l 3 2 3 (i + 1)).1] [], (mkS l 3 2 3 (i + 1)).2) from rfl] at hK
        simp +contextual (disch := omega) [Nat.add_assoc, Int.add_assoc, if_pos, if_neg, -Int.not_lt, -Int.not_le, -Nat.not_lt, -Nat.not_le, -List.length_flatMap]
        rw [CallX_op (by rfl)]
        refine made_w l hb 3 2 (by omega) (by omega) a 2 (by omega) (i + 1) (by omega) (by omega) (by simp +contextual (disch := omega) [Nat.add_assoc, Int.add_assoc, if_pos, if_neg, -Int.not_lt, -Int.not_le, -Nat.not_lt, -Nat.not_le, -List.length_flatMap]) ?_
        intro cs m' x' h1 h2 h3 h4 h5
        obtain ⟨ids, e, hids⟩ := h5.ids 40 (by omega)
        have hA : ∀ U j, j ≤ x1 → aft U m' ids j = m' j := fun U j hj => aft_none _ _ _ _ (fun hc => by have := hids _ hc; omega)
        have hx : m' x = some (.cells [.i .i64 0, .i .i64 0, .ns, .ns] false) := (h3 x (by omega) (by omega)).trans (by simp +contextual (disch := omega) [Nat.add_assoc, Int.add_assoc, if_pos, if_neg, -Int.not_lt, -Int.not_le, -Nat.not_lt, -Nat.not_le, -List.length_flatMap])
        simp +contextual (disch := omega) [Nat.add_assoc, Int.add_assoc, if_pos, if_neg, -Int.not_lt, -Int.not_le, -Nat.not_lt, -Nat.not_le, -List.length_flatMap, e, h1, ansK (law13_Sort.a _), hA, hx]
        refine hK _ _ _ (cT_len _) ?_ (fun j q1 q2 => ?_) (by omega) ((FzAt.self (fun D => cT_fz _ D)).up (Nat.le_refl _) (by omega) (fun _ _ _ => rfl))
        · rw [Sto.sne _ _ _ _ (by omega), hA _ _ (by omega), h2]
        · rw [Sto.sne _ _ _ _ (by omega), hA _ _ (by omega), h3 j (by omega) q2]
          simp +contextual (disch := omega) [Nat.add_assoc, Int.add_assoc, if_pos, if_neg, -Int.not_lt, -Int.not_le, -Nat.not_lt, -Nat.not_le, -List.length_flatMap]
      · rw [show leafT l v 3 (i + 1) = (.mk 3 (pickS l (i + 1) 4 : Nat) (lvlsT l (pickS l (i + 2) 3) (i + 3)).1 [], (lvlsT l (pickS l (i + 2) 3) (i + 3)).2) from rfl] at hK
        simp +contextual (disch := omega) [Nat.add_assoc, Int.add_assoc, if_pos, if_neg, -Int.not_lt, -Int.not_le, -Nat.not_lt, -Nat.not_le, -List.length_flatMap]
        rw [CallX_op (by rfl)]
        refine pick_w (l := l) (i := i + 1) (n := 4) (by simp +contextual (disch := omega) [Nat.add_assoc, Int.add_assoc, if_pos, if_neg, -Int.not_lt, -Int.not_le, -Nat.not_lt, -Nat.not_le, -List.length_flatMap]) hb (by omega) (by omega) ?_
        intro x2 hx2
        simp +contextual (disch := omega) [Nat.add_assoc, Int.add_assoc, if_pos, if_neg, -Int.not_lt, -Int.not_le, -Nat.not_lt, -Nat.not_le, -List.length_flatMap]
        rw [CallX_op (by rfl)]
        refine pick_w (l := l) (i := i + 2) (n := 3) (by simp +contextual (disch := omega) [Nat.add_assoc, Int.add_assoc, if_pos, if_neg, -Int.not_lt, -Int.not_le, -Nat.not_lt, -Nat.not_le, -List.length_flatMap]) hb (by omega) (by omega) ?_
        intro x3 hx3
        simp +contextual (disch := omega) [Nat.add_assoc, Int.add_assoc, if_pos, if_neg, -Int.not_lt, -Int.not_le, -Nat.not_lt, -Nat.not_le, -List.length_flatMap]
        have hc3 := pickS_lt l (i + 2) 3 (by omega)
        generalize pickS l (i + 2) 3 = c at hc3 hK ⊢
        generalize pickS l (i + 1) 4 = N at hK ⊢
        generalize hM : Sto.set _ a _ = M
        have hMa : M a = some (.cells [sV cU l, .i .i64 ((i + 3 : Nat) : Int)] false) := by rw [← hM, Sto.seq]; simp
        have hMy : M (x2 + 1) = some (.cells [.i .i64 3, .i .i64 N, .ns, .ns] false) := by rw [← hM]; simp +contextual (disch := omega) [Nat.add_assoc, Int.add_assoc, if_pos, if_neg, -Int.not_lt, -Int.not_le, -Nat.not_lt, -Nat.not_le, -List.length_flatMap]
        have hMx : M x = some (.cells [.i .i64 0, .i .i64 0, .ns, .ns] false) := by rw [← hM]; simp +contextual (disch := omega) [Nat.add_assoc, Int.add_assoc, if_pos, if_neg, -Int.not_lt, -Int.not_le, -Nat.not_lt, -Nat.not_le, -List.length_flatMap]
        have hMj : ∀ j, j < x → j ≠ a → M j = m j := fun j h1 h2 => by rw [← hM]; simp +contextual (disch := omega) [Nat.add_assoc, Int.add_assoc, if_pos, if_neg, -Int.not_lt, -Int.not_le, -Nat.not_lt, -Nat.not_le, -List.length_flatMap]
        clear hM
        have hlb := (lvlsT_bd l c (i + 3)).1
        refine while_w (fun k e m' x' => ∃ B vs, ∃ ii : Nat, (e 0 = .p a 0 ∧ e 6 = .p x 0 ∧ e 8 = .p (x2 + 1) 0 ∧ e 9 = .i .i64 k) ∧ x2 + 2 ≤ x' ∧ m' (x2 + 1) = some (.cells [.i .i64 3, .i .i64 N, B, .ns] false) ∧ m' x = some (.cells [.i .i64 0, .i .i64 0, .ns, .ns] false) ∧
          Bn m' B cL 3 vs (x2 + 2) x' 3 ∧ vs.length + k = c ∧ m' a = some (.cells [sV cU l, .i .i64 ii] false) ∧ ii + 64 * k ≤ i + 3 + 64 * c ∧ lvlsT l c (i + 3) = (vs ++ (lvlsT l k ii).1, (lvlsT l k ii).2) ∧ (∀ j, j < x → j ≠ a → m' j = m j)) c ?_ ?_
        · exact ⟨.ns, [], i + 3, by simp +contextual (disch := omega) [Nat.add_assoc, Int.add_assoc, if_pos, if_neg, -Int.not_lt, -Int.not_le, -Nat.not_lt, -Nat.not_le, -List.length_flatMap], by omega, hMy, hMx, Bn.nil, by simp, hMa, by omega, by simp, hMj⟩
        · rintro k e m' x' ⟨B, vs, ii, ⟨e0, e6, e8, e9⟩, w1, w2, w3, w4, w5, w6, w7, w8, w9⟩
          cases k with
          | zero =>
            simp +contextual (disch := omega) [Nat.add_assoc, Int.add_assoc, if_pos, if_neg, -Int.not_lt, -Int.not_le, -Nat.not_lt, -Nat.not_le, -List.length_flatMap, law13_Term.b1, e0, e6, e8, e9, w2, w3]
            refine hK _ _ _ rfl ?_ (fun j q1 q2 => ?_) (by omega) ?_
            · rw [Sto.sne _ _ _ _ (by omega), w6, w8]; simp [lvlsT]
            · rw [Sto.sne _ _ _ _ (by omega), w9 j q1 q2]
            · rw [w8]
              simp only [lvlsT, List.append_nil]
              generalize hM10 : Sto.set _ x _ = M10
              refine (FzTd (d := 5) (w4.up (m' := M10) (x' := x' + 4) (by omega) (fun j r1 r2 => by rw [← hM10, Sto.sne _ _ _ _ (by omega)])) FzN (by omega)).low (by omega)
          | succ k =>
            have hmb := mkS_bd l 3 2 2 ii
            simp +contextual (disch := omega) [Nat.add_assoc, Int.add_assoc, if_pos, if_neg, -Int.not_lt, -Int.not_le, -Nat.not_lt, -Nat.not_le, -List.length_flatMap, law13_Term.b1, e0, e6, e8, e9, w2]
            rw [CallQ_op (by rfl)]
            refine level_q l hb 3 2 (by omega) (by omega) a 1 (by omega) ii (by omega) (by omega) w6 ?_
            intro cs ws ids x5 q1 q2 q3 q4 q5 q6 q7 q8
            have hws : ∀ (a : Nat) (b : Option PObj), (a, b) ∈ ws → ¬ a = x2 + 1 := fun a' b h e => by
              have h1 : a' ∈ ids := by rw [← q8]; exact List.mem_map.2 ⟨(a', b), h, rfl⟩
              have := q7 a' h1
              omega
            simp +contextual (disch := omega) [Nat.add_assoc, Int.add_assoc, if_pos, if_neg, -Int.not_lt, -Int.not_le, -Nat.not_lt, -Nat.not_le, -List.length_flatMap]
            rw [IfK_pos ⟨hws, by omega⟩, List.take_of_length_le (by omega)]
            generalize hM2 : Sto.set (m'.app ws) x5 _ = M2
            have hj2 : ∀ j, j < x' → j ≠ a → M2 j = m' j := fun j h1 h2 => by rw [← hM2, Sto.sne _ _ _ _ (by omega), q3 j (by omega) h2]
            have hM2a : M2 a = some (.cells [sV cU l, .i .i64 ((mkS l 3 2 2 ii).2 : Nat)] false) := by rw [← hM2, Sto.sne _ _ _ _ (by omega), q2]
            refine w4.ap (mkS l 3 2 2 ii).1 (fun j h1 h2 => hj2 j h2 (by omega)) (by omega) (by omega) (q6.wide (by omega) (by omega) (fun j h1 h2 => by rw [← hM2, Sto.sne _ _ _ _ (by omega)])) q1 rfl (by omega) ?_
            intro B' ws2 M3 z0 z1 z2 z3
            have t0 := (z2 x (by omega)).trans ((hj2 x (by omega) (by omega)).trans w3)
            have t1 := (z2 (x2 + 1) (by omega)).trans ((hj2 (x2 + 1) (by omega) (by omega)).trans w2)
            simp +contextual (disch := omega) [Nat.add_assoc, Int.add_assoc, if_pos, if_neg, -Int.not_lt, -Int.not_le, -Nat.not_lt, -Nat.not_le, -List.length_flatMap, z0, t0, t1, z1.stor, z1.cells, e0, e6, e8, e9]
            refine ⟨k, by omega, rfl, by omega, vs ++ [(mkS l 3 2 2 ii).1], z1.up (by omega) (fun j h1 h2 => Sto.sne _ _ _ _ (by omega)), by simp; omega, (mkS l 3 2 2 ii).2, (z2 a (by omega)).trans hM2a, by omega, ?_, fun j h1 h2 => ?_⟩
            · rw [w8]; simp [lvlsT]
            · rw [z2 j (by omega), hj2 j (by omega) h2, w9 j h1 h2]
    rw [if_neg h4] at hK
    have n2 : ¬ (k0 : Int) < 2 := by omega
    have n3 : ¬ (k0 : Int) < 3 := by omega
    have n4 : ¬ (k0 : Int) < 4 := by omega
    by_cases h7 : k0 < 7
    · rw [if_pos h7] at hK
      have h7' : (k0 : Int) < 7 := by omega
      simp +contextual (disch := omega) [Nat.add_assoc, Int.add_assoc, if_pos, if_neg, -Int.not_lt, -Int.not_le, -Nat.not_lt, -Nat.not_le, -List.length_flatMap, n2, n3, n4, h7', hd1]
      rw [CallX_op (by rfl)]
      refine openg_w rfl rfl (.inl rfl) ?_
      rw [hfT]
      refine ih (by omega) v (i + 1) hv (by omega) (by omega) (by omega) (by simp +contextual (disch := omega) [Nat.add_assoc, Int.add_assoc, if_pos, if_neg, -Int.not_lt, -Int.not_le, -Nat.not_lt, -Nat.not_le, -List.length_flatMap]) ?_
      intro cs1 m1 x2 q1 q2 q3 q4 q5
      simp +contextual (disch := omega) [Nat.add_assoc, Int.add_assoc, if_pos, if_neg, -Int.not_lt, -Int.not_le, -Nat.not_lt, -Nat.not_le, -List.length_flatMap, hd1]
      rw [CallX_op (by rfl)]
      refine openg_w rfl rfl (.inl rfl) ?_
      rw [hfT]
      refine ih (by omega) v (mkT l d v (i + 1)).2 hv (by omega) (by omega) (by omega) q2 ?_
      intro cs2 m2 x3 p1 p2 p3 p4 p5
      have hdr : List.drop 8 (cs1 ++ [V.i .i64 0, V.i .i64 0, V.ns, V.ns]) = [] := List.drop_of_length_le (by simp; omega)
      simp +contextual (disch := omega) [Nat.add_assoc, Int.add_assoc, if_pos, if_neg, -Int.not_lt, -Int.not_le, -Nat.not_lt, -Nat.not_le, -List.length_flatMap, q1, p1, hdr, -frzW_ms]
      generalize hMM : Sto.set m2 x3 _ = MM
      have hMj : ∀ j, j ≠ x3 → MM j = m2 j := fun j hj => by rw [← hMM, Sto.sne _ _ _ _ hj]
      have hMy : MM x3 = some (.cells (cs1 ++ cs2) false) := by rw [← hMM, Sto.seq]
      clear hMM
      have z1 := q5.wide (m' := MM) (lo' := x + 1) (x' := x3) (by omega) (by omega) (fun j r1 r2 => by rw [hMj j (by omega), p3 j (by omega) (by omega)])
      have z2 := p5.wide (m' := MM) (lo' := x + 1) (x' := x3) (by omega) (by omega) (fun j r1 r2 => by rw [hMj j (by omega)])
      obtain ⟨ids, e, hids⟩ := ((z1.app z2).ms (m' := MM) (x' := x3 + 1) (esz := 4) (n := 2) (a := x3) (ro := false) (cs := cs1 ++ cs2) (fun j r1 r2 => rfl) hMy (by omega) (by omega) (by omega) (by simp)).one 40 (by omega)
      have hA : ∀ U j, j ≤ x → aft U MM ids j = MM j := fun U j hj => aft_none _ _ _ _ (fun hc => by have := hids _ hc; omega)
      have hx : MM x = some (.cells [.i .i64 0, .i .i64 0, .ns, .ns] false) := by rw [hMj x (by omega), p3 x (by omega) (by omega), q3 x (by omega) (by omega)]; simp +contextual (disch := omega) [Nat.add_assoc, Int.add_assoc, if_pos, if_neg, -Int.not_lt, -Int.not_le, -Nat.not_lt, -Nat.not_le, -List.length_flatMap]
      have hB := law13_Bind.a 4 [(mkT l d v (i + 1)).1, (mkT l d v (mkT l d v (i + 1)).2).1] (by simp)
      rw [show sV cT [(mkT l d v (i + 1)).1, (mkT l d v (mkT l d v (i + 1)).2).1] = .sl (cT (mkT l d v (i + 1)).1 ++ cT (mkT l d v (mkT l d v (i + 1)).2).1) 2 by simp [sV]] at hB
      rw [e]
      simp +contextual (disch := omega) [Nat.add_assoc, Int.add_assoc, if_pos, if_neg, -Int.not_lt, -Int.not_le, -Nat.not_lt, -Nat.not_le, -List.length_flatMap, ansK hB, hA, hx]
      refine hK _ _ _ (cT_len _) ?_ (fun j r1 r2 => ?_) (by omega) ((FzAt.self (fun D => cT_fz _ D)).up (Nat.le_refl _) (by omega) (fun _ _ _ => rfl))
      · rw [Sto.sne _ _ _ _ (by omega), hA _ _ (by omega), hMj a (by omega), p2]
      · rw [Sto.sne _ _ _ _ (by omega), hA _ _ (by omega), hMj j (by omega), p3 j (by omega) r2, q3 j (by omega) r2]
        simp +contextual (disch := omega) [Nat.add_assoc, Int.add_assoc, if_pos, if_neg, -Int.not_lt, -Int.not_le, -Nat.not_lt, -Nat.not_le, -List.length_flatMap]
    rw [if_neg h7] at hK
    have n7 : ¬ (k0 : Int) < 7 := by omega
    by_cases h9 : k0 < 9
    · rw [if_pos h9] at hK
      have h9' : (k0 : Int) < 9 := by omega
      simp +contextual (disch := omega) [Nat.add_assoc, Int.add_assoc, if_pos, if_neg, -Int.not_lt, -Int.not_le, -Nat.not_lt, -Nat.not_le, -List.length_flatMap, n2, n3, n4, n7, h9', hd1]
      rw [CallX_op (by rfl)]
      refine openg_w rfl rfl (.inl rfl) ?_
      rw [hfT]
      refine ih (by omega) v (i + 1) hv (by omega) (by omega) (by omega) (by simp +contextual (disch := omega) [Nat.add_assoc, Int.add_assoc, if_pos, if_neg, -Int.not_lt, -Int.not_le, -Nat.not_lt, -Nat.not_le, -List.length_flatMap]) ?_
      intro cs1 m1 x2 q1 q2 q3 q4 q5
      simp +contextual (disch := omega) [Nat.add_assoc, Int.add_assoc, if_pos, if_neg, -Int.not_lt, -Int.not_le, -Nat.not_lt, -Nat.not_le, -List.length_flatMap, hd1]
      rw [CallX_op (by rfl)]
      refine openg_w rfl rfl (.inl rfl) ?_
      rw [hfT]
      show Pi.w ctx (envOf [.p a 0, .i .i64 ((v + 1 : Nat) : Int), .i .i64 ((d : Int) + 1)]) _ _ _ _ _ _ _
      refine ih (by omega) (v + 1) (mkT l d v (i + 1)).2 (by omega) (by omega) (by omega) (by omega) q2 ?_
      intro cs2 m2 x3 p1 p2 p3 p4 p5
      have hdr : List.drop 8 (cs1 ++ [V.i .i64 0, V.i .i64 0, V.ns, V.ns]) = [] := List.drop_of_length_le (by simp; omega)
      simp +contextual (disch := omega) [Nat.add_assoc, Int.add_assoc, if_pos, if_neg, -Int.not_lt, -Int.not_le, -Nat.not_lt, -Nat.not_le, -List.length_flatMap, q1, p1, hdr, -frzW_ms]
      generalize hMM : Sto.set m2 x3 _ = MM
      have hMj : ∀ j, j ≠ x3 → MM j = m2 j := fun j hj => by rw [← hMM, Sto.sne _ _ _ _ hj]
      have hMy : MM x3 = some (.cells (cs1 ++ cs2) false) := by rw [← hMM, Sto.seq]
      clear hMM
      have z1 := q5.wide (m' := MM) (lo' := x + 1) (x' := x3) (by omega) (by omega) (fun j r1 r2 => by rw [hMj j (by omega), p3 j (by omega) (by omega)])
      have z2 := p5.wide (m' := MM) (lo' := x + 1) (x' := x3) (by omega) (by omega) (fun j r1 r2 => by rw [hMj j (by omega)])
      obtain ⟨ids, e, hids⟩ := ((z1.app z2).ms (m' := MM) (x' := x3 + 1) (esz := 4) (n := 2) (a := x3) (ro := false) (cs := cs1 ++ cs2) (fun j r1 r2 => rfl) hMy (by omega) (by omega) (by omega) (by simp)).one 40 (by omega)
      have hA : ∀ U j, j ≤ x → aft U MM ids j = MM j := fun U j hj => aft_none _ _ _ _ (fun hc => by have := hids _ hc; omega)
      have hx : MM x = some (.cells [.i .i64 0, .i .i64 0, .ns, .ns] false) := by rw [hMj x (by omega), p3 x (by omega) (by omega), q3 x (by omega) (by omega)]; simp +contextual (disch := omega) [Nat.add_assoc, Int.add_assoc, if_pos, if_neg, -Int.not_lt, -Int.not_le, -Nat.not_lt, -Nat.not_le, -List.length_flatMap]
      have hB := law13_Bind.a 5 [(mkT l d v (i + 1)).1, (mkT l d (v + 1) (mkT l d v (i + 1)).2).1] (by simp)
      rw [show sV cT [(mkT l d v (i + 1)).1, (mkT l d (v + 1) (mkT l d v (i + 1)).2).1] = .sl (cT (mkT l d v (i + 1)).1 ++ cT (mkT l d (v + 1) (mkT l d v (i + 1)).2).1) 2 by simp [sV]] at hB
      rw [e]
      simp +contextual (disch := omega) [Nat.add_assoc, Int.add_assoc, if_pos, if_neg, -Int.not_lt, -Int.not_le, -Nat.not_lt, -Nat.not_le, -List.length_flatMap, ansK hB, hA, hx]
      refine hK _ _ _ (cT_len _) ?_ (fun j r1 r2 => ?_) (by omega) ((FzAt.self (fun D => cT_fz _ D)).up (Nat.le_refl _) (by omega) (fun _ _ _ => rfl))
      · rw [Sto.sne _ _ _ _ (by omega), hA _ _ (by omega), hMj a (by omega), p2]
      · rw [Sto.sne _ _ _ _ (by omega), hA _ _ (by omega), hMj j (by omega), p3 j (by omega) r2, q3 j (by omega) r2]
        simp +contextual (disch := omega) [Nat.add_assoc, Int.add_assoc, if_pos, if_neg, -Int.not_lt, -Int.not_le, -Nat.not_lt, -Nat.not_le, -List.length_flatMap]
    rw [if_neg h9] at hK
    have n9 : ¬ (k0 : Int) < 9 := by omega
    by_cases h11 : k0 < 11
    · rw [if_pos h11] at hK
      have h11' : (k0 : Int) < 11 := by omega
      simp +contextual (disch := omega) [Nat.add_assoc, Int.add_assoc, if_pos, if_neg, -Int.not_lt, -Int.not_le, -Nat.not_lt, -Nat.not_le, -List.length_flatMap, n2, n3, n4, n7, n9, h11', hd1]
      rw [CallX_op (by rfl)]
      refine openg_w rfl rfl (.inl rfl) ?_
      rw [hfT]
      refine ih (by omega) v (i + 1) hv (by omega) (by omega) (by omega) (by simp +contextual (disch := omega) [Nat.add_assoc, Int.add_assoc, if_pos, if_neg, -Int.not_lt, -Int.not_le, -Nat.not_lt, -Nat.not_le, -List.length_flatMap]) ?_
      intro cs1 m1 x2 q1 q2 q3 q4 q5
      simp +contextual (disch := omega) [Nat.add_assoc, Int.add_assoc, if_pos, if_neg, -Int.not_lt, -Int.not_le, -Nat.not_lt, -Nat.not_le, -List.length_flatMap, hd1]
      rw [CallX_op (by rfl)]
      refine openg_w rfl rfl (.inl rfl) ?_
      rw [hfT]
      show Pi.w ctx (envOf [.p a 0, .i .i64 ((v + 1 : Nat) : Int), .i .i64 ((d : Int) + 1)]) _ _ _ _ _ _ _
      refine ih (by omega) (v + 1) (mkT l d v (i + 1)).2 (by omega) (by omega) (by omega) (by omega) q2 ?_
      intro cs2 m2 x3 p1 p2 p3 p4 p5
      have hdr : List.drop 8 (cs1 ++ [V.i .i64 0, V.i .i64 0, V.ns, V.ns]) = [] := List.drop_of_length_le (by simp; omega)
      simp +contextual (disch := omega) [Nat.add_assoc, Int.add_assoc, if_pos, if_neg, -Int.not_lt, -Int.not_le, -Nat.not_lt, -Nat.not_le, -List.length_flatMap, q1, p1, hdr, -frzW_ms]
      generalize hMM : Sto.set m2 x3 _ = MM
      have hMj : ∀ j, j ≠ x3 → MM j = m2 j := fun j hj => by rw [← hMM, Sto.sne _ _ _ _ hj]
      have hMy : MM x3 = some (.cells (cs1 ++ cs2) false) := by rw [← hMM, Sto.seq]
      clear hMM
      have z1 := q5.wide (m' := MM) (lo' := x + 1) (x' := x3) (by omega) (by omega) (fun j r1 r2 => by rw [hMj j (by omega), p3 j (by omega) (by omega)])
      have z2 := p5.wide (m' := MM) (lo' := x + 1) (x' := x3) (by omega) (by omega) (fun j r1 r2 => by rw [hMj j (by omega)])
      obtain ⟨ids, e, hids⟩ := ((z1.app z2).ms (m' := MM) (x' := x3 + 1) (esz := 4) (n := 2) (a := x3) (ro := false) (cs := cs1 ++ cs2) (fun j r1 r2 => rfl) hMy (by omega) (by omega) (by omega) (by simp)).one 40 (by omega)
      have hA : ∀ U j, j ≤ x → aft U MM ids j = MM j := fun U j hj => aft_none _ _ _ _ (fun hc => by have := hids _ hc; omega)
      have hx : MM x = some (.cells [.i .i64 0, .i .i64 0, .ns, .ns] false) := by rw [hMj x (by omega), p3 x (by omega) (by omega), q3 x (by omega) (by omega)]; simp +contextual (disch := omega) [Nat.add_assoc, Int.add_assoc, if_pos, if_neg, -Int.not_lt, -Int.not_le, -Nat.not_lt, -Nat.not_le, -List.length_flatMap]
      have hB := law13_Bind.a 6 [(mkT l d v (i + 1)).1, (mkT l d (v + 1) (mkT l d v (i + 1)).2).1] (by simp)
      rw [show sV cT [(mkT l d v (i + 1)).1, (mkT l d (v + 1) (mkT l d v (i + 1)).2).1] = .sl (cT (mkT l d v (i + 1)).1 ++ cT (mkT l d (v + 1) (mkT l d v (i + 1)).2).1) 2 by simp [sV]] at hB
      rw [e]
      simp +contextual (disch := omega) [Nat.add_assoc, Int.add_assoc, if_pos, if_neg, -Int.not_lt, -Int.not_le, -Nat.not_lt, -Nat.not_le, -List.length_flatMap, ansK hB, hA, hx]
      refine hK _ _ _ (cT_len _) ?_ (fun j r1 r2 => ?_) (by omega) ((FzAt.self (fun D => cT_fz _ D)).up (Nat.le_refl _) (by omega) (fun _ _ _ => rfl))
      · rw [Sto.sne _ _ _ _ (by omega), hA _ _ (by omega), hMj a (by omega), p2]
      · rw [Sto.sne _ _ _ _ (by omega), hA _ _ (by omega), hMj j (by omega), p3 j (by omega) r2, q3 j (by omega) r2]
        simp +contextual (disch := omega) [Nat.add_assoc, Int.add_assoc, if_pos, if_neg, -Int.not_lt, -Int.not_le, -Nat.not_lt, -Nat.not_le, -List.length_flatMap]
    rw [if_neg h11] at hK
    have n11 : ¬ (k0 : Int) < 11 := by omega
    · simp +contextual (disch := omega) [Nat.add_assoc, Int.add_assoc, if_pos, if_neg, -Int.not_lt, -Int.not_le, -Nat.not_lt, -Nat.not_le, -List.length_flatMap, n2, n3, n4, n7, n9, n11, hd1]
      rw [CallX_op (by rfl)]
      refine openg_w rfl rfl (.inl rfl) ?_
      rw [hfT]
      refine ih (by omega) v (i + 1) hv (by omega) (by omega) (by omega) (by simp +contextual (disch := omega) [Nat.add_assoc, Int.add_assoc, if_pos, if_neg, -Int.not_lt, -Int.not_le, -Nat.not_lt, -Nat.not_le, -List.length_flatMap]) ?_
      intro cs1 m1 x2 q1 q2 q3 q4 q5
      simp +contextual (disch := omega) [Nat.add_assoc, Int.add_assoc, if_pos, if_neg, -Int.not_lt, -Int.not_le, -Nat.not_lt, -Nat.not_le, -List.length_flatMap, hd1]
      rw [CallX_op (by rfl)]
      refine openg_w rfl rfl (.inl rfl) ?_
      rw [hfT]
      refine ih (by omega) v (mkT l d v (i + 1)).2 hv (by omega) (by omega) (by omega) q2 ?_
      intro cs2 m2 x3 p1 p2 p3 p4 p5
      simp +contextual (disch := omega) [Nat.add_assoc, Int.add_assoc, if_pos, if_neg, -Int.not_lt, -Int.not_le, -Nat.not_lt, -Nat.not_le, -List.length_flatMap, hd1]
      rw [CallX_op (by rfl)]
      refine openg_w rfl rfl (.inl rfl) ?_
      rw [hfT]
      show Pi.w ctx (envOf [.p a 0, .i .i64 ((v + 1 : Nat) : Int), .i .i64 ((d : Int) + 1)]) _ _ _ _ _ _ _
      refine ih (by omega) (v + 1) (mkT l d v (mkT l d v (i + 1)).2).2 (by omega) (by omega) (by omega) (by omega) p2 ?_
      intro cs3 m3 x4 s1 s2 s3 s4 s5
      have hd1 : List.drop 8 (cs1 ++ [V.i .i64 0, V.i .i64 0, V.ns, V.ns, V.i .i64 0, V.i .i64 0, V.ns, V.ns]) = [V.i .i64 0, V.i .i64 0, V.ns, V.ns] := by
        rw [List.drop_append, List.drop_of_length_le (by omega), q1]; rfl
      have hd2 : List.take 8 (cs1 ++ (cs2 ++ [V.i .i64 0, V.i .i64 0, V.ns, V.ns])) = cs1 ++ cs2 := by
        rw [← List.append_assoc, List.take_append_of_le_length (by simp; omega), List.take_of_length_le (by simp; omega)]
      have hd3 : List.drop 12 (cs1 ++ (cs2 ++ [V.i .i64 0, V.i .i64 0, V.ns, V.ns])) = [] := List.drop_of_length_le (by simp; omega)
      simp +contextual (disch := omega) [Nat.add_assoc, Int.add_assoc, if_pos, if_neg, -Int.not_lt, -Int.not_le, -Nat.not_lt, -Nat.not_le, -List.length_flatMap, q1, p1, s1, hd1, hd2, hd3, -frzW_ms]
      generalize hMM : Sto.set m3 x4 _ = MM
      have hMj : ∀ j, j ≠ x4 → MM j = m3 j := fun j hj => by rw [← hMM, Sto.sne _ _ _ _ hj]
      have hMy : MM x4 = some (.cells (cs1 ++ (cs2 ++ cs3)) false) := by rw [← hMM, Sto.seq]
      clear hMM
      have z1 := q5.wide (m' := MM) (lo' := x + 1) (x' := x4) (by omega) (by omega) (fun j r1 r2 => by rw [hMj j (by omega), s3 j (by omega) (by omega), p3 j (by omega) (by omega)])
      have z2 := p5.wide (m' := MM) (lo' := x + 1) (x' := x4) (by omega) (by omega) (fun j r1 r2 => by rw [hMj j (by omega), s3 j (by omega) (by omega)])
      have z3 := s5.wide (m' := MM) (lo' := x + 1) (x' := x4) (by omega) (by omega) (fun j r1 r2 => by rw [hMj j (by omega)])
      obtain ⟨ids, e, hids⟩ := ((z1.app (z2.app z3)).ms (m' := MM) (x' := x4 + 1) (esz := 4) (n := 3) (a := x4) (ro := false) (cs := cs1 ++ (cs2 ++ cs3)) (fun j r1 r2 => rfl) hMy (by omega) (by omega) (by omega) (by simp)).one 40 (by omega)
      have hA : ∀ U j, j ≤ x → aft U MM ids j = MM j := fun U j hj => aft_none _ _ _ _ (fun hc => by have := hids _ hc; omega)
      have hx : MM x = some (.cells [.i .i64 0, .i .i64 0, .ns, .ns] false) := by rw [hMj x (by omega), s3 x (by omega) (by omega), p3 x (by omega) (by omega), q3 x (by omega) (by omega)]; simp +contextual (disch := omega) [Nat.add_assoc, Int.add_assoc, if_pos, if_neg, -Int.not_lt, -Int.not_le, -Nat.not_lt, -Nat.not_le, -List.length_flatMap]
      have hB := law13_Bind.a 7 [(mkT l d v (i + 1)).1, (mkT l d v (mkT l d v (i + 1)).2).1, (mkT l d (v + 1) (mkT l d v (mkT l d v (i + 1)).2).2).1] (by simp)
      rw [show sV cT [(mkT l d v (i + 1)).1, (mkT l d v (mkT l d v (i + 1)).2).1, (mkT l d (v + 1) (mkT l d v (mkT l d v (i + 1)).2).2).1] = .sl (cT (mkT l d v (i + 1)).1 ++ (cT (mkT l d v (mkT l d v (i + 1)).2).1 ++ cT (mkT l d (v + 1) (mkT l d v (mkT l d v (i + 1)).2).2).1)) 3 by simp [sV]] at hB
      rw [e]
      simp +contextual (disch := omega) [Nat.add_assoc, Int.add_assoc, if_pos, if_neg, -Int.not_lt, -Int.not_le, -Nat.not_lt, -Nat.not_le, -List.length_flatMap, ansK hB, hA, hx]
      refine hK _ _ _ (cT_len _) ?_ (fun j r1 r2 => ?_) (by omega) ((FzAt.self (fun D => cT_fz _ D)).up (Nat.le_refl _) (by omega) (fun _ _ _ => rfl))
      · rw [Sto.sne _ _ _ _ (by omega), hA _ _ (by omega), hMj a (by omega), s2]
      · rw [Sto.sne _ _ _ _ (by omega), hA _ _ (by omega), hMj j (by omega), s3 j (by omega) r2, p3 j (by omega) r2, q3 j (by omega) r2]
        simp +contextual (disch := omega) [Nat.add_assoc, Int.add_assoc, if_pos, if_neg, -Int.not_lt, -Int.not_le, -Nat.not_lt, -Nat.not_le, -List.length_flatMap]
end Pi


set_option linter.unusedSimpArgs false
set_option linter.unusedVariables false
namespace Pi
mutual
def partsT (l : Tm) (most : Int) : Int := match l with
  | .mk _ _ _ ks => partsL ks most 1
def partsL (ks : List Tm) (most n : Int) : Int := match ks with
  | [] => n
  | k :: r => partsL r most (if n < most then n + partsT k (most - n) else n)
end
def partsF (most n : Int) (k : Tm) : Int := if n < most then n + partsT k (most - n) else n
theorem partsL_eq (ks : List Tm) (most n : Int) : partsL ks most n = ks.foldl (partsF most) n := by
  induction ks generalizing n with
  | nil => simp [partsL]
  | cons k r ih => simp [partsL, ih, partsF]
theorem partsT_eq (l : Tm) (most : Int) : partsT l most = l.kids.foldl (partsF most) 1 := by
  cases l; simp [partsT, partsL_eq]
theorem partsT_bd (l : Tm) : ∀ most, 1 ≤ partsT l most ∧ (partsT l most ≤ most ∨ partsT l most = 1) := by
  induction l using Tm.ind with
  | h l ih =>
    intro most
    rw [partsT_eq]
    refine fold_inv (P := fun n => 1 ≤ n ∧ (n ≤ most ∨ n = 1)) (fun n k hk hn => ?_) ⟨by omega, .inr rfl⟩
    have := ih k hk (most - n)
    unfold partsF
    split <;> omega
theorem term_parts.a (l : Tm) : l.Ok → ∀ most, -2000 < most → most < 2000 → Ans ctx term_parts.n [.ag (cT l), .i .i64 most] (.i .i64 (partsT l most)) := by
  induction l using Tm.ind with
  | h l ih =>
  intro ok most h1 h2
  have hlen := ok.len
  refine ans term_parts.f ?_
  simp +contextual (disch := omega) [Nat.add_assoc, Int.add_assoc, if_pos, if_neg, -Int.not_lt, -Int.not_le, -Nat.not_lt, -Nat.not_le, -List.length_flatMap, term_parts.c]
  refine for_w (fun i e m x => e 1 = .i .i64 most ∧ e 9 = sV cT l.kids ∧ e 10 = .i .i64 l.kids.length ∧ e 11 = .i .i64 i ∧ ∃ n, e 5 = .i .i64 n ∧ (l.kids.take i).foldl (partsF most) 1 = n ∧ 1 ≤ n ∧ (n ≤ most ∨ n = 1)) l.kids.length ?_ ?_ ?_
  · simp
  · rintro i e m x hi ⟨g1, g2, g3, g4, n, g5, g6, g7, g8⟩
    have hk := ih l.kids[i] (List.getElem_mem hi) (ok.at hi)
    have hb := partsT_bd l.kids[i] (most - n)
    simp +contextual (disch := omega) [Nat.add_assoc, Int.add_assoc, if_pos, if_neg, -Int.not_lt, -Int.not_le, -Nat.not_lt, -Nat.not_le, -List.length_flatMap, term_parts.b1, hi, g1, g2, g3, g4, g5, g6, ansK (hk _ _ _), take_fold, partsF, IfK]
    omega
  · rintro e m x ⟨g1, g2, g3, g4, n, g5, g6, g7, g8⟩
    simp +contextual (disch := omega) [Nat.add_assoc, Int.add_assoc, if_pos, if_neg, -Int.not_lt, -Int.not_le, -Nat.not_lt, -Nat.not_le, -List.length_flatMap, term_parts.b1, g1, g2, g3, g4, g5]
    simpa [partsT_eq] using g6.symm
def kidsT (k : Int) : Int := if k = 1 ∨ k = 2 ∨ k = 3 then 0 else if k = 4 ∨ k = 5 ∨ k = 6 then 2 else if k = 7 then 3 else -1
def bindT (k : Int) (i : Nat) : Int := if ((k = 5 ∨ k = 6) ∧ i = 1) ∨ (k = 7 ∧ i = 2) then 1 else 0
def namedT (t : Tm) (v : Int) : Bool :=
  if t.kind = 1 then decide (0 ≤ t.n) && decide (t.n < v) && decide (t.lvls.length = 0)
  else if t.kind = 3 then decide (0 ≤ t.n) && decide (t.n < 20) && decide (t.lvls.length ≤ 5)
  else if t.kind = 2 then decide (t.n = 0) && decide (t.lvls.length = 1)
  else decide (t.n = 0) && decide (t.lvls.length = 0)
mutual
def rightT (t : Tm) (v p q d : Int) : Bool := match t with
  | .mk k n ls ks => decide (0 < d) && decide ((ks.length : Int) = kidsT k) && namedT (.mk k n ls []) v && !(ls.any fun l => !(RightS l p q)) && rightTs k ks 0 v p q (d - 1)
def rightTs (k : Int) (ks : List Tm) (i : Nat) (v p q d : Int) : Bool := match ks with
  | [] => true
  | x :: r => rightT x (v + bindT k i) p q d && rightTs k r (i + 1) v p q d
end
theorem rightT_eq (t : Tm) (v p q d : Int) : rightT t v p q d = (decide (0 < d) && decide ((t.kids.length : Int) = kidsT t.kind) && namedT t v && !(t.lvls.any fun l => !(RightS l p q)) && rightTs t.kind t.kids 0 v p q (d - 1)) := by
  cases t with
  | mk k n ls ks => simp only [rightT]; rfl
theorem rightTs_true {k : Int} {v p q d : Int} : ∀ {ks : List Tm} {i : Nat}, rightTs k ks i v p q d = true ↔ ∀ (j : Nat) (h : j < ks.length), rightT ks[j] (v + bindT k (i + j)) p q d = true
  | [], i => by simp [rightTs]
  | x :: r, i => by
    simp only [rightTs, Bool.and_eq_true]
    rw [rightTs_true]
    constructor
    · rintro ⟨h1, h2⟩ j hj
      cases j with
      | zero => exact h1
      | succ j => have := h2 j (by simpa using hj); rw [show i + 1 + j = i + (j + 1) by omega] at this; simpa using this
    · intro h
      refine ⟨h 0 (by simp), fun j hj => ?_⟩
      have := h (j + 1) (by simpa using hj)
      rw [show i + 1 + j = i + (j + 1) by omega]
      simpa using this
theorem rightTs_false {k : Int} {v p q d : Int} {ks : List Tm} {j : Nat} (h : j < ks.length) (hf : rightT ks[j] (v + bindT k j) p q d = false) : rightTs k ks 0 v p q d = false := by
  rw [Bool.eq_false_iff]
  intro hr
  have := rightTs_true.1 hr j h
  rw [Nat.zero_add, hf] at this
  cases this
def RightT (t : Tm) (v p q : Int) : Bool := if v < 0 ∨ v > 1000 ∨ p < 0 ∨ p > 5 ∨ q < 0 ∨ q > 10 then false else decide (partsT t 601 ≤ 600) && rightT t v p q 30
def shapesM : V := .rm [.i .i64 1, .i .i64 2, .i .i64 3, .i .i64 4, .i .i64 5, .i .i64 6, .i .i64 7]
  [.ag [.i .i64 0, .i .i64 (-1)], .ag [.i .i64 0, .i .i64 (-1)], .ag [.i .i64 0, .i .i64 (-1)], .ag [.i .i64 2, .i .i64 (-1)], .ag [.i .i64 2, .i .i64 1], .ag [.i .i64 2, .i .i64 1], .ag [.i .i64 3, .i .i64 2]]
set_option maxRecDepth 100000 in
theorem term_shapes.a : Ans ctx term_shapes.n [] shapesM := ans_told (n := 300) (by kernel_rfl)
@[simp] theorem refOf_shapes : refOf shapesM = [] := (rfl)
def shK (k : Int) : Int := if k = 4 ∨ k = 5 ∨ k = 6 then 2 else if k = 7 then 3 else 0
def shB (k : Int) : Int := if k = 1 ∨ k = 2 ∨ k = 3 ∨ k = 4 then -1 else if k = 5 ∨ k = 6 then 1 else if k = 7 then 2 else 0
def isT (k : Int) : Bool := decide (1 ≤ k) && decide (k ≤ 7)
theorem kind7 (k : Int) : k = 1 ∨ k = 2 ∨ k = 3 ∨ k = 4 ∨ k = 5 ∨ k = 6 ∨ k = 7 ∨ (k ≠ 1 ∧ k ≠ 2 ∧ k ≠ 3 ∧ k ≠ 4 ∧ k ≠ 5 ∧ k ≠ 6 ∧ k ≠ 7) := by omega
theorem shapes_lk (m : Sto) (k : Int) : lkV m (.one .i) (.ag [.i .i64 0, .i .i64 0]) shapesM (.i .i64 k) true = some (.tu [.ag [.i .i64 (shK k), .i .i64 (shB k)], .b (isT k)], []) := by
  unfold shapesM
  rcases kind7 k with rfl | rfl | rfl | rfl | rfl | rfl | rfl | ⟨h1, h2, h3, h4, h5, h6, h7⟩
  all_goals simp [shK, shB, isT]
  all_goals simp [*]
  omega
theorem shapes_lk0 (m : Sto) (k : Int) : lkV m (.one .i) (.ag [.i .i64 0, .i .i64 0]) shapesM (.i .i64 k) false = some (.ag [.i .i64 (shK k), .i .i64 (shB k)], []) := by
  unfold shapesM
  rcases kind7 k with rfl | rfl | rfl | rfl | rfl | rfl | rfl | ⟨h1, h2, h3, h4, h5, h6, h7⟩
  all_goals simp [shK, shB]
  all_goals (try simp [*])
theorem term_below.a (t : Tm) (i : Nat) (hk : isT t.kind = true) (hi : i ≤ 9223372036854775807) : Ans ctx term_below.n [.ag (cT t), .i .i64 i] (.i .i64 (bindT t.kind i)) := by
  refine ans term_below.f ?_
  have e : bindT t.kind i = if shB t.kind = i then 1 else 0 := by
    unfold bindT shB
    unfold isT at hk
    generalize t.kind = k at *
    rcases kind7 k with rfl | rfl | rfl | rfl | rfl | rfl | rfl | ⟨h1, h2, h3, h4, h5, h6, h7⟩
    all_goals (try simp)
    all_goals (try omega)
    all_goals (simp at hk; omega)
  rw [e]
  by_cases h : shB t.kind = i
  · simp +contextual (disch := omega) [Nat.add_assoc, Int.add_assoc, if_pos, if_neg, -Int.not_lt, -Int.not_le, -Nat.not_lt, -Nat.not_le, -List.length_flatMap, term_below.c, ansK term_shapes.a, shapes_lk0, h]
  · simp +contextual (disch := omega) [Nat.add_assoc, Int.add_assoc, if_pos, if_neg, -Int.not_lt, -Int.not_le, -Nat.not_lt, -Nat.not_le, -List.length_flatMap, term_below.c, ansK term_shapes.a, shapes_lk0, h]
theorem term_room_named.a (t : Tm) (ok : t.Ok) (v p q : Int) : Ans ctx term_room_named.n [.ag [.i .i64 v, .i .i64 p, .i .i64 q], .ag (cT t)] (.b (namedT t v)) := by
  refine ans term_room_named.f ?_
  have hl := ok.llen
  unfold namedT
  by_cases h1 : t.kind = 1
  · simp +contextual (disch := omega) [Nat.add_assoc, Int.add_assoc, if_pos, if_neg, -Int.not_lt, -Int.not_le, -Nat.not_lt, -Nat.not_le, -List.length_flatMap, term_room_named.c, h1]
  · by_cases h3 : t.kind = 3
    · simp +contextual (disch := omega) [Nat.add_assoc, Int.add_assoc, if_pos, if_neg, -Int.not_lt, -Int.not_le, -Nat.not_lt, -Nat.not_le, -List.length_flatMap, term_room_named.c, h1, h3]
      intros
      omega
    · by_cases h2 : t.kind = 2
      · simp +contextual (disch := omega) [Nat.add_assoc, Int.add_assoc, if_pos, if_neg, -Int.not_lt, -Int.not_le, -Nat.not_lt, -Nat.not_le, -List.length_flatMap, term_room_named.c, h1, h2, h3]
        intros
        omega
      · simp +contextual (disch := omega) [Nat.add_assoc, Int.add_assoc, if_pos, if_neg, -Int.not_lt, -Int.not_le, -Nat.not_lt, -Nat.not_le, -List.length_flatMap, term_room_named.c, h1, h2, h3]
theorem rightT_kids {t : Tm} {v p q d : Int} : (decide ((t.kids.length : Int) = kidsT t.kind)) = (isT t.kind && decide ((t.kids.length : Int) = shK t.kind)) := by
  unfold kidsT isT shK
  generalize t.kind = k
  generalize hn : (t.kids.length : Int) = n
  have h0 : 0 ≤ n := by omega
  rcases kind7 k with rfl | rfl | rfl | rfl | rfl | rfl | rfl | ⟨h1, h2, h3, h4, h5, h6, h7⟩
  all_goals (try simp)
  all_goals (try simp [*])
  rw [Bool.eq_iff_iff]
  simp
  omega
set_option maxHeartbeats 4000000 in
theorem term_room_right.a (t : Tm) : t.Ok → ∀ v p q d : Int, (0 ≤ d ∧ d ≤ 100) → (0 ≤ v ∧ v + d ≤ 2000) → Ans ctx term_room_right.n [.ag [.i .i64 v, .i .i64 p, .i .i64 q], .ag (cT t), .i .i64 d] (.b (rightT t v p q d)) := by
  induction t using Tm.ind with
  | h t ih =>
  intro ok v p q d hd hv
  have hlen := ok.len
  refine ans term_room_right.f ?_
  rw [rightT_eq, rightT_kids (v := v) (p := p) (q := q) (d := d)]
  have hodd : ∀ k ∈ t.lvls, Ans ctx term_room_right_1.n (.ag (cL k) :: [.rp [.i .i64 v, .i .i64 p, .i .i64 q]]) (.b (!(RightS k p q))) := by
    intro k hk
    refine ans term_room_right_1.f ?_
    simp +contextual (disch := omega) [Nat.add_assoc, Int.add_assoc, if_pos, if_neg, -Int.not_lt, -Int.not_le, -Nat.not_lt, -Nat.not_le, -List.length_flatMap, term_room_right_1.c, ansK (level_Right.a k (ok.lvl hk) p q)]
  have hc := slices_ContainsFunc_Level.a t.lvls term_room_right_1.n [.rp [.i .i64 v, .i .i64 p, .i .i64 q]] (fun k => !(RightS k p q)) rfl rfl (by intro D; simp) hodd ok.llen
  generalize (t.lvls.any fun k => !(RightS k p q)) = A at hc ⊢
  by_cases h0 : 0 < d
  · have h0' : ¬ d = 0 := by omega
    cases hi : isT t.kind with
    | false =>
      simp +contextual (disch := omega) [Nat.add_assoc, Int.add_assoc, if_pos, if_neg, -Int.not_lt, -Int.not_le, -Nat.not_lt, -Nat.not_le, -List.length_flatMap, term_room_right.c, ansK term_shapes.a, shapes_lk, h0, h0', hi]
    | true =>
      by_cases hk : (t.kids.length : Int) = shK t.kind
      · simp +contextual (disch := omega) [Nat.add_assoc, Int.add_assoc, if_pos, if_neg, -Int.not_lt, -Int.not_le, -Nat.not_lt, -Nat.not_le, -List.length_flatMap, term_room_right.c, ansK term_shapes.a, shapes_lk, h0, h0', hi, hk, ansK (term_room_named.a t ok _ _ _), ansK hc]
        intro _ _
        refine for_w (fun i e m x => e 2 = .i .i64 d ∧ e 3 = .p 0 0 ∧ e 4 = .p 1 0 ∧ m 0 = some (.cells [.i .i64 v, .i .i64 p, .i .i64 q] false) ∧ m 1 = some (.cells (cT t) false) ∧ e 48 = sV cT t.kids ∧ e 49 = .i .i64 t.kids.length ∧ e 50 = .i .i64 i ∧ 2 ≤ x ∧ ∀ (j : Nat) (h : j < t.kids.length), j < i → rightT t.kids[j] (v + bindT t.kind j) p q (d - 1) = true) t.kids.length ?_ ?_ ?_
        · simp +contextual (disch := omega) [Nat.add_assoc, Int.add_assoc, if_pos, if_neg, -Int.not_lt, -Int.not_le, -Nat.not_lt, -Nat.not_le, -List.length_flatMap, hk]
        · rintro i e m x hi2 ⟨e2, e3, e4, m0, m1, e48, e49, e50, hx, hR⟩
          have hb : bindT t.kind i = 0 ∨ bindT t.kind i = 1 := by unfold bindT; split <;> simp
          have hv2 : 0 ≤ v + bindT t.kind i ∧ v + bindT t.kind i + (d - 1) ≤ 2000 := by omega
          have hr := ih t.kids[i] (List.getElem_mem hi2) (ok.at hi2) (v + bindT t.kind i) p q (d - 1) (by omega) hv2
          have hB := term_below.a t i hi (by omega)
          cases hc2 : rightT t.kids[i] (v + bindT t.kind i) p q (d - 1) with
          | true =>
            rw [hc2] at hr
            simp +contextual (disch := omega) [Nat.add_assoc, Int.add_assoc, if_pos, if_neg, -Int.not_lt, -Int.not_le, -Nat.not_lt, -Nat.not_le, -List.length_flatMap, term_room_right.b1, e2, e3, e4, m0, m1, e48, e49, e50, hi2, ansK hB, ansK hr]
            intro j h1 h2
            by_cases hj : j = i
            · subst hj; exact hc2
            · exact hR j h1 (by omega)
          | false =>
            rw [hc2] at hr
            simp +contextual (disch := omega) [Nat.add_assoc, Int.add_assoc, if_pos, if_neg, -Int.not_lt, -Int.not_le, -Nat.not_lt, -Nat.not_le, -List.length_flatMap, term_room_right.b1, e2, e3, e4, m0, m1, e48, e49, e50, hi2, ansK hB, ansK hr, rightTs_false hi2 hc2]
        · rintro e m x ⟨e2, e3, e4, m0, m1, e48, e49, e50, hx, hR⟩
          have : rightTs t.kind t.kids 0 v p q (d - 1) = true := rightTs_true.2 (fun j h => by rw [Nat.zero_add]; exact hR j h h)
          simp +contextual (disch := omega) [Nat.add_assoc, Int.add_assoc, if_pos, if_neg, -Int.not_lt, -Int.not_le, -Nat.not_lt, -Nat.not_le, -List.length_flatMap, term_room_right.b1, e2, e3, e4, m0, m1, e48, e49, e50, this]
      · simp +contextual (disch := omega) [Nat.add_assoc, Int.add_assoc, if_pos, if_neg, -Int.not_lt, -Int.not_le, -Nat.not_lt, -Nat.not_le, -List.length_flatMap, term_room_right.c, ansK term_shapes.a, shapes_lk, h0, h0', hi, hk]
  · have h0' : d = 0 := by omega
    simp +contextual (disch := omega) [Nat.add_assoc, Int.add_assoc, if_pos, if_neg, -Int.not_lt, -Int.not_le, -Nat.not_lt, -Nat.not_le, -List.length_flatMap, term_room_right.c, ansK term_shapes.a, shapes_lk, h0, h0']
theorem term_room_fits.a (t : Tm) (ok : t.Ok) (v p q : Int) (hv : 0 ≤ v ∧ v ≤ 1000) : Ans ctx term_room_fits.n [.ag [.i .i64 v, .i .i64 p, .i .i64 q], .ag (cT t)] (.b (decide (partsT t 601 ≤ 600) && rightT t v p q 30)) := by
  refine ans term_room_fits.f ?_
  simp +contextual (disch := omega) [Nat.add_assoc, Int.add_assoc, if_pos, if_neg, -Int.not_lt, -Int.not_le, -Nat.not_lt, -Nat.not_le, -List.length_flatMap, term_room_fits.c, ansK (term_parts.a t ok _ _ _), ansK (term_room_right.a t ok _ _ _ _ _ _)]
theorem term_Right.a (t : Tm) (ok : t.Ok) (v p q : Int) : Ans ctx term_Right.n [.ag (cT t), .i .i64 v, .i .i64 p, .i .i64 q] (.b (RightT t v p q)) := by
  refine ans term_Right.f ?_
  unfold RightT
  by_cases h : v < 0 ∨ v > 1000 ∨ p < 0 ∨ p > 5 ∨ q < 0 ∨ q > 10
  · rw [if_pos h]
    simp +contextual (disch := omega) [Nat.add_assoc, Int.add_assoc, if_pos, if_neg, -Int.not_lt, -Int.not_le, -Nat.not_lt, -Nat.not_le, -List.length_flatMap, term_Right.c]
  · rw [if_neg h]
    simp +contextual (disch := omega) [Nat.add_assoc, Int.add_assoc, if_pos, if_neg, -Int.not_lt, -Int.not_le, -Nat.not_lt, -Nat.not_le, -List.length_flatMap, term_Right.c, ansK (term_room_fits.a t ok _ _ _ _)]
end Pi

