/- Contracts: terms (layer 13): terms by numbers, the maker. -/
import Derived.Test.YtbkkigmlkafeiaaC14m
import Derived.Test.YtbkkigmlkafeiaaC02g
import Derived.Test.YtbkkigmlkafeiaaEnc
set_option linter.unusedSimpArgs false
set_option linter.unusedVariables false
namespace Pi
theorem FzAt.one {m : Sto} {lo x k : Nat} {v u : V} (h : FzAt m lo x k [v] [u]) (d : Nat) (hd : k ≤ d) : ∃ ids, frzW (der m d) v = some (u, ids) ∧ ∀ i ∈ ids, lo ≤ i ∧ i < x := by
  obtain ⟨ids, e, hi⟩ := h.ids d hd
  rw [frzL_cons] at e
  cases h1 : frzW (der m d) v with
  | none => rw [h1] at e; simp at e
  | some p =>
    rw [h1] at e
    simp at e
    obtain ⟨e1, e2⟩ := e
    exact ⟨ids, by rw [← e1, ← e2], hi⟩
theorem FzTd {m : Sto} {lo x d0 d : Nat} {k n : Int} {ls : List L} {ks : List Tm} {B C : V} (hB : Bn m B cL 3 ls lo x d0) (hC : FzAt m lo x d [C] [sV cT ks]) (hd : d0 + 1 ≤ d) : FzAt m lo x d [.i .i64 k, .i .i64 n, B, C] (cT (.mk k n ls ks)) := by
  rw [cT_of]
  have z := (FzAt.fr (m := m) (lo := lo) (x := x) (k := d) (cs := [.i .i64 k, .i .i64 n]) (by simp)).app ((hB.at.up (Nat.le_refl x) hd (fun _ _ _ => rfl)).app hC)
  simpa using z
set_option maxHeartbeats 8000000 in
theorem law13_Term.w (l : List Nat) (hb : Byt l) (a : Nat) : ∀ (d : Nat), d ≤ 3 → ∀ (v i : Nat) {m : Sto} {x : Nat} {K : CR → Sto → Nat → Prop}, 0 < v → v + d ≤ 20 → i + 300 * 4 ^ d ≤ 100000000 → a < x → m a = some (.cells [sV cU l, .i .i64 i] false) →
    MadeT l a x m (mkT l d v i) K → Pi.w ctx (envOf [.p a 0, .i .i64 v, .i .i64 ((d : Int) + 1)]) m x [] none none (RetG ctx law13_Term.c.rs K) law13_Term.c.code := by
  intro d
  induction d with
  | zero =>
    intro hd v i m x K hv hvd hi hax hm hK
    simp +contextual (disch := omega) [Nat.add_assoc, Int.add_assoc, if_pos, if_neg, -Int.not_lt, -Int.not_le, -Nat.not_lt, -Nat.not_le, -List.length_flatMap, law13_Term.c]
    rw [CallX_op (by rfl)]
    refine pick_w (l := l) (i := i) (n := 12) (by simp +contextual (disch := omega) [Nat.add_assoc, Int.add_assoc, if_pos, if_neg, -Int.not_lt, -Int.not_le, -Nat.not_lt, -Nat.not_le, -List.length_flatMap, hm]) hb (by omega) (by omega) ?_
    intro x1 hx1
    simp only [mkT] at hK
    have hk := pickS_lt l i 12 (by omega)
    generalize pickS l i 12 = k0 at hk hK
    have hk4 : (k0 : Int).tmod 4 = ((k0 % 4 : Nat) : Int) := by rw [Int.tmod_eq_emod_of_nonneg (by omega)]; rfl
    have hq : k0 % 4 < 4 := Nat.mod_lt _ (by omega)
    generalize k0 % 4 = q at hk4 hq hK
    rcases (by omega : q = 0 ∨ q = 1 ∨ q = 2 ∨ q = 3) with rfl | rfl | rfl | rfl
    · rw [show leafT l v 0 (i + 1) = (.mk 1 (pickS l (i + 1) v : Nat) [] [], i + 1 + 1) from rfl] at hK
      simp +contextual (disch := omega) [Nat.add_assoc, Int.add_assoc, if_pos, if_neg, -Int.not_lt, -Int.not_le, -Nat.not_lt, -Nat.not_le, -List.length_flatMap, hk4, hv]
      rw [CallX_op (by rfl)]
      refine pick_w (l := l) (i := i + 1) (n := v) (by simp +contextual (disch := omega) [Nat.add_assoc, Int.add_assoc, if_pos, if_neg, -Int.not_lt, -Int.not_le, -Nat.not_lt, -Nat.not_le, -List.length_flatMap]) hb (by omega) (by omega) ?_
      intro x2 hx2
      simp +contextual (disch := omega) [Nat.add_assoc, Int.add_assoc, if_pos, if_neg, -Int.not_lt, -Int.not_le, -Nat.not_lt, -Nat.not_le, -List.length_flatMap, ansK (law13_Var.a _)]
      refine hK _ _ _ (cT_len _) ?_ (fun j h1 h2 => ?_) (by omega) ((FzAt.self (fun D => cT_fz _ D)).up (Nat.le_refl _) (by omega) (fun _ _ _ => rfl))
      · simp +contextual (disch := omega) [Nat.add_assoc, Int.add_assoc, if_pos, if_neg, -Int.not_lt, -Int.not_le, -Nat.not_lt, -Nat.not_le, -List.length_flatMap]
      · simp +contextual (disch := omega) [Nat.add_assoc, Int.add_assoc, if_pos, if_neg, -Int.not_lt, -Int.not_le, -Nat.not_lt, -Nat.not_le, -List.length_flatMap]
    · rw [show leafT l v 1 (i + 1) = (.mk 1 (pickS l (i + 1) v : Nat) [] [], i + 1 + 1) from rfl] at hK
      simp +contextual (disch := omega) [Nat.add_assoc, Int.add_assoc, if_pos, if_neg, -Int.not_lt, -Int.not_le, -Nat.not_lt, -Nat.not_le, -List.length_flatMap, hk4, hv]
      rw [CallX_op (by rfl)]
      refine pick_w (l := l) (i := i + 1) (n := v) (by simp +contextual (disch := omega) [Nat.add_assoc, Int.add_assoc, if_pos, if_neg, -Int.not_lt, -Int.not_le, -Nat.not_lt, -Nat.not_le, -List.length_flatMap]) hb (by omega) (by omega) ?_
      intro x2 hx2
      simp +contextual (disch := omega) [Nat.add_assoc, Int.add_assoc, if_pos, if_neg, -Int.not_lt, -Int.not_le, -Nat.not_lt, -Nat.not_le, -List.length_flatMap, ansK (law13_Var.a _)]
      refine hK _ _ _ (cT_len _) ?_ (fun j h1 h2 => ?_) (by omega) ((FzAt.self (fun D => cT_fz _ D)).up (Nat.le_refl _) (by omega) (fun _ _ _ => rfl))
      · simp +contextual (disch := omega) [Nat.add_assoc, Int.add_assoc, if_pos, if_neg, -Int.not_lt, -Int.not_le, -Nat.not_lt, -Nat.not_le, -List.length_flatMap]
      · simp +contextual (disch := omega) [Nat.add_assoc, Int.add_assoc, if_pos, if_neg, -Int.not_lt, -Int.not_le, -Nat.not_lt, -Nat.not_le, -List.length_flatMap]
    · rw [show leafT l v 2 (i + 1) = (.mk 2 0 [(mkS l 3 2 3 (i + 1)).1] [], (mkS l 3 2 3 (i + 1)).2) from rfl] at hK
      simp +contextual (disch := omega) [Nat.add_assoc, Int.add_assoc, if_pos, if_neg, -Int.not_lt, -Int.not_le, -Nat.not_lt, -Nat.not_le, -List.length_flatMap, hk4]
      rw [CallX_op (by rfl)]
      refine made_w l hb 3 2 (by omega) (by omega) a 2 (by omega) (i + 1) (by omega) (by omega) (by simp +contextual (disch := omega) [Nat.add_assoc, Int.add_assoc, if_pos, if_neg, -Int.not_lt, -Int.not_le, -Nat.not_lt, -Nat.not_le, -List.length_flatMap]) ?_
      intro cs m' x' h1 h2 h3 h4 h5
      obtain ⟨ids, e, hids⟩ := h5.ids 40 (by omega)
      have hA : ∀ U j, j ≤ x1 → aft U m' ids j = m' j := fun U j hj => aft_none _ _ _ _ (fun hc => by have := hids _ hc; omega)
      have hx : m' x = some (.cells [.i .i64 0, .i .i64 0, .ns, .ns] false) := (h3 x (by omega) (by omega)).trans (by simp +contextual (disch := omega) [Nat.add_assoc, Int.add_assoc, if_pos, if_neg, -Int.not_lt, -Int.not_le, -Nat.not_lt, -Nat.not_le, -List.length_flatMap])
      simp +contextual (disch := omega) [Nat.add_assoc, Int.add_assoc, if_pos, if_neg, -Int.not_lt, -Int.not_le, -Nat.not_lt, -Nat.not_le, -List.length_flatMap, e, h1, ansK (law13_Sort.a _), hA, hx]
      refine hK _ _ _ (cT_len _) ?_ (fun j q1 q2 => ?_) (by omega) ((FzAt.self (fun D => cT_fz _ D)).up (Nat.le_refl _) (by omega) (fun _ _ _ => rfl))
      · rw [Sto.sne _ _ _ _ (by omega), hA _ _ (by omega), h2]
      · rw [Sto.sne _ _ _ _ (by omega), hA _ _ (by omega), h3 j (by omega) q2]
        simp +contextual (disch := omega) [Nat.add_assoc, Int.add_assoc, if_pos, if_neg, -Int.not_lt, -Int.not_le, -Nat.not_lt, -Nat.not_le, -List.length_flatMap]
    · rw [show leafT l v 3 (i + 1) = (.mk 3 (pickS l (i + 1) 4 : Nat) (lvlsT l (pickS l (i + 2) 3) (i + 3)).1 [], (lvlsT l (pickS l (i + 2) 3) (i + 3)).2) from rfl] at hK
      simp +contextual (disch := omega) [Nat.add_assoc, Int.add_assoc, if_pos, if_neg, -Int.not_lt, -Int.not_le, -Nat.not_lt, -Nat.not_le, -List.length_flatMap, hk4]
      rw [CallX_op (by rfl)]
      refine pick_w (l := l) (i := i + 1) (n := 4) (by simp +contextual (disch := omega) [Nat.add_assoc, Int.add_assoc, if_pos, if_neg, -Int.not_lt, -Int.not_le, -Nat.not_lt, -Nat.not_le, -List.length_flatMap]) hb (by omega) (by omega) ?_
      intro x2 hx2
      simp +contextual (disch := omega) [Nat.add_assoc, Int.add_assoc, if_pos, if_neg, -Int.not_lt, -Int.not_le, -Nat.not_lt, -Nat.not_le, -List.length_flatMap]
      rw [CallX_op (by rfl)]
      refine pick_w (l := l) (i := i + 2) (n := 3) (by simp +contextual (disch := omega) [Nat.add_assoc, Int.add_assoc, if_pos, if_neg, -Int.not_lt, -Int.not_le, -Nat.not_lt, -Nat.not_le, -List.length_flatMap]) hb (by omega) (by omega) ?_
      intro x3 hx3
      simp +contextual (disch := omega) [Nat.add_assoc, Int.add_assoc, if_pos, if_neg, -Int.not_lt, -Int.not_le, -Nat.not_lt, -Nat.not_le, -List.length_flatMap]
      have hc3 := pickS_lt l (i + 2) 3 (by omega)
      generalize pickS l (i + 2) 3 = c at hc3 hK ⊢
      generalize pickS l (i + 1) 4 = N at hK ⊢
      generalize hM : Sto.set _ a _ = M
      have hMa : M a = some (.cells [sV cU l, .i .i64 ((i + 3 : Nat) : Int)] false) := by rw [← hM, Sto.seq]; simp
      have hMy : M (x2 + 1) = some (.cells [.i .i64 3, .i .i64 N, .ns, .ns] false) := by rw [← hM]; simp +contextual (disch := omega) [Nat.add_assoc, Int.add_assoc, if_pos, if_neg, -Int.not_lt, -Int.not_le, -Nat.not_lt, -Nat.not_le, -List.length_flatMap]
      have hMx : M x = some (.cells [.i .i64 0, .i .i64 0, .ns, .ns] false) := by rw [← hM]; simp +contextual (disch := omega) [Nat.add_assoc, Int.add_assoc, if_pos, if_neg, -Int.not_lt, -Int.not_le, -Nat.not_lt, -Nat.not_le, -List.length_flatMap]
      have hMj : ∀ j, j < x → j ≠ a → M j = m j := fun j h1 h2 => by rw [← hM]; simp +contextual (disch := omega) [Nat.add_assoc, Int.add_assoc, if_pos, if_neg, -Int.not_lt, -Int.not_le, -Nat.not_lt, -Nat.not_le, -List.length_flatMap]
      clear hM
      have hlb := (lvlsT_bd l c (i + 3)).1
      refine while_w (fun k e m' x' => ∃ B vs, ∃ ii : Nat, (e 0 = .p a 0 ∧ e 6 = .p x 0 ∧ e 8 = .p (x2 + 1) 0 ∧ e 9 = .i .i64 k) ∧ x2 + 2 ≤ x' ∧ m' (x2 + 1) = some (.cells [.i .i64 3, .i .i64 N, B, .ns] false) ∧ m' x = some (.cells [.i .i64 0, .i .i64 0, .ns, .ns] false) ∧
        Bn m' B cL 3 vs (x2 + 2) x' 3 ∧ vs.length + k = c ∧ m' a = some (.cells [sV cU l, .i .i64 ii] false) ∧ ii + 64 * k ≤ i + 3 + 64 * c ∧ lvlsT l c (i + 3) = (vs ++ (lvlsT l k ii).1, (lvlsT l k ii).2) ∧ (∀ j, j < x → j ≠ a → m' j = m j)) c ?_ ?_
      · exact ⟨.ns, [], i + 3, by simp +contextual (disch := omega) [Nat.add_assoc, Int.add_assoc, if_pos, if_neg, -Int.not_lt, -Int.not_le, -Nat.not_lt, -Nat.not_le, -List.length_flatMap], by omega, hMy, hMx, Bn.nil, by simp, hMa, by omega, by simp, hMj⟩
      · rintro k e m' x' ⟨B, vs, ii, ⟨e0, e6, e8, e9⟩, w1, w2, w3, w4, w5, w6, w7, w8, w9⟩
        cases k with
        | zero =>
          simp +contextual (disch := omega) [Nat.add_assoc, Int.add_assoc, if_pos, if_neg, -Int.not_lt, -Int.not_le, -Nat.not_lt, -Nat.not_le, -List.length_flatMap, law13_Term.b1, e0, e6, e8, e9, w2, w3]
          refine hK _ _ _ rfl ?_ (fun j q1 q2 => ?_) (by omega) ?_
          · rw [Sto.sne _ _ _ _ (by omega), w6, w8]; simp [lvlsT]
          · rw [Sto.sne _ _ _ _ (by omega), w9 j q1 q2]
          · rw [w8]
            simp only [lvlsT, List.append_nil]
            generalize hM10 : Sto.set _ x _ = M10
            refine (FzTd (d := 5) (w4.up (m' := M10) (x' := x' + 4) (by omega) (fun j r1 r2 => by rw [← hM10, Sto.sne _ _ _ _ (by omega)])) FzN (by omega)).low (by omega)
        | succ k =>
          have hmb := mkS_bd l 3 2 2 ii
          simp +contextual (disch := omega) [Nat.add_assoc, Int.add_assoc, if_pos, if_neg, -Int.not_lt, -Int.not_le, -Nat.not_lt, -Nat.not_le, -List.length_flatMap, law13_Term.b1, e0, e6, e8, e9, w2]
          rw [CallQ_op (by rfl)]
          refine level_q l hb 3 2 (by omega) (by omega) a 1 (by omega) ii (by omega) (by omega) w6 ?_
          intro cs ws ids x5 q1 q2 q3 q4 q5 q6 q7 q8
          have hws : ∀ (a : Nat) (b : Option PObj), (a, b) ∈ ws → ¬ a = x2 + 1 := fun a' b h e => by
            have h1 : a' ∈ ids := by rw [← q8]; exact List.mem_map.2 ⟨(a', b), h, rfl⟩
            have := q7 a' h1
            omega
          simp +contextual (disch := omega) [Nat.add_assoc, Int.add_assoc, if_pos, if_neg, -Int.not_lt, -Int.not_le, -Nat.not_lt, -Nat.not_le, -List.length_flatMap]
          rw [IfK_pos ⟨hws, by omega⟩, List.take_of_length_le (by omega)]
          generalize hM2 : Sto.set (m'.app ws) x5 _ = M2
          have hj2 : ∀ j, j < x' → j ≠ a → M2 j = m' j := fun j h1 h2 => by rw [← hM2, Sto.sne _ _ _ _ (by omega), q3 j (by omega) h2]
          have hM2a : M2 a = some (.cells [sV cU l, .i .i64 ((mkS l 3 2 2 ii).2 : Nat)] false) := by rw [← hM2, Sto.sne _ _ _ _ (by omega), q2]
          refine w4.ap (mkS l 3 2 2 ii).1 (fun j h1 h2 => hj2 j h2 (by omega)) (by omega) (by omega) (q6.wide (by omega) (by omega) (fun j h1 h2 => by rw [← hM2, Sto.sne _ _ _ _ (by omega)])) q1 rfl (by omega) ?_
          intro B' ws2 M3 z0 z1 z2 z3
          have t0 := (z2 x (by omega)).trans ((hj2 x (by omega) (by omega)).trans w3)
          have t1 := (z2 (x2 + 1) (by omega)).trans ((hj2 (x2 + 1) (by omega) (by omega)).trans w2)
          simp +contextual (disch := omega) [Nat.add_assoc, Int.add_assoc, if_pos, if_neg, -Int.not_lt, -Int.not_le, -Nat.not_lt, -Nat.not_le, -List.length_flatMap, z0, t0, t1, z1.stor, z1.cells, e0, e6, e8, e9]
          refine ⟨k, by omega, rfl, by omega, vs ++ [(mkS l 3 2 2 ii).1], z1.up (by omega) (fun j h1 h2 => Sto.sne _ _ _ _ (by omega)), by simp; omega, (mkS l 3 2 2 ii).2, (z2 a (by omega)).trans hM2a, by omega, ?_, fun j h1 h2 => ?_⟩
          · rw [w8]; simp [lvlsT]
          · rw [z2 j (by omega), hj2 j (by omega) h2, w9 j h1 h2]
  | succ d ih =>
    intro hd v i m x K hv hvd hi hax hm hK
    have hfT : ctx.frz law13_Term.n = false := rfl
    have hp4 : 300 * 4 ^ (d + 1) = 4 * (300 * 4 ^ d) := by rw [Nat.pow_succ]; omega
    have hp1 : 300 ≤ 300 * 4 ^ d := by have : 1 ≤ 4 ^ d := Nat.one_le_pow _ _ (by omega); omega
    have hd1 : (d : Int) + 2 - 1 = d + 1 := by omega
    simp +contextual (disch := omega) [Nat.add_assoc, Int.add_assoc, if_pos, if_neg, -Int.not_lt, -Int.not_le, -Nat.not_lt, -Nat.not_le, -List.length_flatMap, law13_Term.c]
    rw [CallX_op (by rfl)]
    refine pick_w (l := l) (i := i) (n := 12) (by simp +contextual (disch := omega) [Nat.add_assoc, Int.add_assoc, if_pos, if_neg, -Int.not_lt, -Int.not_le, -Nat.not_lt, -Nat.not_le, -List.length_flatMap, hm]) hb (by omega) (by omega) ?_
    intro x1 hx1
    simp only [mkT] at hK
    have hk := pickS_lt l i 12 (by omega)
    generalize pickS l i 12 = k0 at hk hK
    have hd2 : ¬ (d : Int) + 2 < 2 := by omega
    have b1 := mkT_bd l d v (i + 1)
    have b2 := mkT_bd l d v (mkT l d v (i + 1)).2
    have b3 := mkT_bd l d (v + 1) (mkT l d v (i + 1)).2
    have b4 := mkT_bd l d (v + 1) (mkT l d v (mkT l d v (i + 1)).2).2
    by_cases h4 : k0 < 4
    · rw [if_pos h4] at hK
      rcases (by omega : k0 = 0 ∨ k0 = 1 ∨ k0 = 2 ∨ k0 = 3) with rfl | rfl | rfl | rfl
      · rw [show leafT l v 0 (i + 1) = (.mk 1 (pickS l (i + 1) v : Nat) [] [], i + 1 + 1) from rfl] at hK
        simp +contextual (disch := omega) [Nat.add_assoc, Int.add_assoc, if_pos, if_neg, -Int.not_lt, -Int.not_le, -Nat.not_lt, -Nat.not_le, -List.length_flatMap, hv]
        rw [CallX_op (by rfl)]
        refine pick_w (l := l) (i := i + 1) (n := v) (by simp +contextual (disch := omega) [Nat.add_assoc, Int.add_assoc, if_pos, if_neg, -Int.not_lt, -Int.not_le, -Nat.not_lt, -Nat.not_le, -List.length_flatMap]) hb (by omega) (by omega) ?_
        intro x2 hx2
        simp +contextual (disch := omega) [Nat.add_assoc, Int.add_assoc, if_pos, if_neg, -Int.not_lt, -Int.not_le, -Nat.not_lt, -Nat.not_le, -List.length_flatMap, ansK (law13_Var.a _)]
        refine hK _ _ _ (cT_len _) ?_ (fun j h1 h2 => ?_) (by omega) ((FzAt.self (fun D => cT_fz _ D)).up (Nat.le_refl _) (by omega) (fun _ _ _ => rfl))
        · simp +contextual (disch := omega) [Nat.add_assoc, Int.add_assoc, if_pos, if_neg, -Int.not_lt, -Int.not_le, -Nat.not_lt, -Nat.not_le, -List.length_flatMap]
        · simp +contextual (disch := omega) [Nat.add_assoc, Int.add_assoc, if_pos, if_neg, -Int.not_lt, -Int.not_le, -Nat.not_lt, -Nat.not_le, -List.length_flatMap]
      · rw [show leafT l v 1 (i + 1) = (.mk 1 (pickS l (i + 1) v : Nat) [] [], i + 1 + 1) from rfl] at hK
        simp +contextual (disch := omega) [Nat.add_assoc, Int.add_assoc, if_pos, if_neg, -Int.not_lt, -Int.not_le, -Nat.not_lt, -Nat.not_le, -List.length_flatMap, hv]
        rw [CallX_op (by rfl)]
        refine pick_w (l := l) (i := i + 1) (n := v) (by simp +contextual (disch := omega) [Nat.add_assoc, Int.add_assoc, if_pos, if_neg, -Int.not_lt, -Int.not_le, -Nat.not_lt, -Nat.not_le, -List.length_flatMap]) hb (by omega) (by omega) ?_
        intro x2 hx2
        simp +contextual (disch := omega) [Nat.add_assoc, Int.add_assoc, if_pos, if_neg, -Int.not_lt, -Int.not_le, -Nat.not_lt, -Nat.not_le, -List.length_flatMap, ansK (law13_Var.a _)]
        refine hK _ _ _ (cT_len _) ?_ (fun j h1 h2 => ?_) (by omega) ((FzAt.self (fun D => cT_fz _ D)).up (Nat.le_refl _) (by omega) (fun _ _ _ => rfl))
        · simp +contextual (disch := omega) [Nat.add_assoc, Int.add_assoc, if_pos, if_neg, -Int.not_lt, -Int.not_le, -Nat.not_lt, -Nat.not_le, -List.length_flatMap]
        · simp +contextual (disch := omega) [Nat.add_assoc, Int.add_assoc, if_pos, if_neg, -Int.not_lt, -Int.not_le, -Nat.not_lt, -Nat.not_le, -List.length_flatMap]
      · rw [show leafT l v 2 (i + 1) = (.mk 2 0 [(mkS l 3 2 3 (i + 1)).1] [], (mkS l 3 2 3 (i + 1)).2) from rfl] at hK
        simp +contextual (disch := omega) [Nat.add_assoc, Int.add_assoc, if_pos, if_neg, -Int.not_lt, -Int.not_le, -Nat.not_lt, -Nat.not_le, -List.length_flatMap]
        rw [CallX_op (by rfl)]
        refine made_w l hb 3 2 (by omega) (by omega) a 2 (by omega) (i + 1) (by omega) (by omega) (by simp +contextual (disch := omega) [Nat.add_assoc, Int.add_assoc, if_pos, if_neg, -Int.not_lt, -Int.not_le, -Nat.not_lt, -Nat.not_le, -List.length_flatMap]) ?_
        intro cs m' x' h1 h2 h3 h4 h5
        obtain ⟨ids, e, hids⟩ := h5.ids 40 (by omega)
        have hA : ∀ U j, j ≤ x1 → aft U m' ids j = m' j := fun U j hj => aft_none _ _ _ _ (fun hc => by have := hids _ hc; omega)
        have hx : m' x = some (.cells [.i .i64 0, .i .i64 0, .ns, .ns] false) := (h3 x (by omega) (by omega)).trans (by simp +contextual (disch := omega) [Nat.add_assoc, Int.add_assoc, if_pos, if_neg, -Int.not_lt, -Int.not_le, -Nat.not_lt, -Nat.not_le, -List.length_flatMap])
        simp +contextual (disch := omega) [Nat.add_assoc, Int.add_assoc, if_pos, if_neg, -Int.not_lt, -Int.not_le, -Nat.not_lt, -Nat.not_le, -List.length_flatMap, e, h1, ansK (law13_Sort.a _), hA, hx]
        refine hK _ _ _ (cT_len _) ?_ (fun j q1 q2 => ?_) (by omega) ((FzAt.self (fun D => cT_fz _ D)).up (Nat.le_refl _) (by omega) (fun _ _ _ => rfl))
        · rw [Sto.sne _ _ _ _ (by omega), hA _ _ (by omega), h2]
        · rw [Sto.sne _ _ _ _ (by omega), hA _ _ (by omega), h3 j (by omega) q2]
          simp +contextual (disch := omega) [Nat.add_assoc, Int.add_assoc, if_pos, if_neg, -Int.not_lt, -Int.not_le, -Nat.not_lt, -Nat.not_le, -List.length_flatMap]
      · rw [show leafT l v 3 (i + 1) = (.mk 3 (pickS l (i + 1) 4 : Nat) (lvlsT l (pickS l (i + 2) 3) (i + 3)).1 [], (lvlsT l (pickS l (i + 2) 3) (i + 3)).2) from rfl] at hK
        simp +contextual (disch := omega) [Nat.add_assoc, Int.add_assoc, if_pos, if_neg, -Int.not_lt, -Int.not_le, -Nat.not_lt, -Nat.not_le, -List.length_flatMap]
        rw [CallX_op (by rfl)]
        refine pick_w (l := l) (i := i + 1) (n := 4) (by simp +contextual (disch := omega) [Nat.add_assoc, Int.add_assoc, if_pos, if_neg, -Int.not_lt, -Int.not_le, -Nat.not_lt, -Nat.not_le, -List.length_flatMap]) hb (by omega) (by omega) ?_
        intro x2 hx2
        simp +contextual (disch := omega) [Nat.add_assoc, Int.add_assoc, if_pos, if_neg, -Int.not_lt, -Int.not_le, -Nat.not_lt, -Nat.not_le, -List.length_flatMap]
        rw [CallX_op (by rfl)]
        refine pick_w (l := l) (i := i + 2) (n := 3) (by simp +contextual (disch := omega) [Nat.add_assoc, Int.add_assoc, if_pos, if_neg, -Int.not_lt, -Int.not_le, -Nat.not_lt, -Nat.not_le, -List.length_flatMap]) hb (by omega) (by omega) ?_
        intro x3 hx3
        simp +contextual (disch := omega) [Nat.add_assoc, Int.add_assoc, if_pos, if_neg, -Int.not_lt, -Int.not_le, -Nat.not_lt, -Nat.not_le, -List.length_flatMap]
        have hc3 := pickS_lt l (i + 2) 3 (by omega)
        generalize pickS l (i + 2) 3 = c at hc3 hK ⊢
        generalize pickS l (i + 1) 4 = N at hK ⊢
        generalize hM : Sto.set _ a _ = M
        have hMa : M a = some (.cells [sV cU l, .i .i64 ((i + 3 : Nat) : Int)] false) := by rw [← hM, Sto.seq]; simp
        have hMy : M (x2 + 1) = some (.cells [.i .i64 3, .i .i64 N, .ns, .ns] false) := by rw [← hM]; simp +contextual (disch := omega) [Nat.add_assoc, Int.add_assoc, if_pos, if_neg, -Int.not_lt, -Int.not_le, -Nat.not_lt, -Nat.not_le, -List.length_flatMap]
        have hMx : M x = some (.cells [.i .i64 0, .i .i64 0, .ns, .ns] false) := by rw [← hM]; simp +contextual (disch := omega) [Nat.add_assoc, Int.add_assoc, if_pos, if_neg, -Int.not_lt, -Int.not_le, -Nat.not_lt, -Nat.not_le, -List.length_flatMap]
        have hMj : ∀ j, j < x → j ≠ a → M j = m j := fun j h1 h2 => by rw [← hM]; simp +contextual (disch := omega) [Nat.add_assoc, Int.add_assoc, if_pos, if_neg, -Int.not_lt, -Int.not_le, -Nat.not_lt, -Nat.not_le, -List.length_flatMap]
        clear hM
        have hlb := (lvlsT_bd l c (i + 3)).1
        refine while_w (fun k e m' x' => ∃ B vs, ∃ ii : Nat, (e 0 = .p a 0 ∧ e 6 = .p x 0 ∧ e 8 = .p (x2 + 1) 0 ∧ e 9 = .i .i64 k) ∧ x2 + 2 ≤ x' ∧ m' (x2 + 1) = some (.cells [.i .i64 3, .i .i64 N, B, .ns] false) ∧ m' x = some (.cells [.i .i64 0, .i .i64 0, .ns, .ns] false) ∧
          Bn m' B cL 3 vs (x2 + 2) x' 3 ∧ vs.length + k = c ∧ m' a = some (.cells [sV cU l, .i .i64 ii] false) ∧ ii + 64 * k ≤ i + 3 + 64 * c ∧ lvlsT l c (i + 3) = (vs ++ (lvlsT l k ii).1, (lvlsT l k ii).2) ∧ (∀ j, j < x → j ≠ a → m' j = m j)) c ?_ ?_
        · exact ⟨.ns, [], i + 3, by simp +contextual (disch := omega) [Nat.add_assoc, Int.add_assoc, if_pos, if_neg, -Int.not_lt, -Int.not_le, -Nat.not_lt, -Nat.not_le, -List.length_flatMap], by omega, hMy, hMx, Bn.nil, by simp, hMa, by omega, by simp, hMj⟩
        · rintro k e m' x' ⟨B, vs, ii, ⟨e0, e6, e8, e9⟩, w1, w2, w3, w4, w5, w6, w7, w8, w9⟩
          cases k with
          | zero =>
            simp +contextual (disch := omega) [Nat.add_assoc, Int.add_assoc, if_pos, if_neg, -Int.not_lt, -Int.not_le, -Nat.not_lt, -Nat.not_le, -List.length_flatMap, law13_Term.b1, e0, e6, e8, e9, w2, w3]
            refine hK _ _ _ rfl ?_ (fun j q1 q2 => ?_) (by omega) ?_
            · rw [Sto.sne _ _ _ _ (by omega), w6, w8]; simp [lvlsT]
            · rw [Sto.sne _ _ _ _ (by omega), w9 j q1 q2]
            · rw [w8]
              simp only [lvlsT, List.append_nil]
              generalize hM10 : Sto.set _ x _ = M10
              refine (FzTd (d := 5) (w4.up (m' := M10) (x' := x' + 4) (by omega) (fun j r1 r2 => by rw [← hM10, Sto.sne _ _ _ _ (by omega)])) FzN (by omega)).low (by omega)
          | succ k =>
            have hmb := mkS_bd l 3 2 2 ii
            simp +contextual (disch := omega) [Nat.add_assoc, Int.add_assoc, if_pos, if_neg, -Int.not_lt, -Int.not_le, -Nat.not_lt, -Nat.not_le, -List.length_flatMap, law13_Term.b1, e0, e6, e8, e9, w2]
            rw [CallQ_op (by rfl)]
            refine level_q l hb 3 2 (by omega) (by omega) a 1 (by omega) ii (by omega) (by omega) w6 ?_
            intro cs ws ids x5 q1 q2 q3 q4 q5 q6 q7 q8
            have hws : ∀ (a : Nat) (b : Option PObj), (a, b) ∈ ws → ¬ a = x2 + 1 := fun a' b h e => by
              have h1 : a' ∈ ids := by rw [← q8]; exact List.mem_map.2 ⟨(a', b), h, rfl⟩
              have := q7 a' h1
              omega
            simp +contextual (disch := omega) [Nat.add_assoc, Int.add_assoc, if_pos, if_neg, -Int.not_lt, -Int.not_le, -Nat.not_lt, -Nat.not_le, -List.length_flatMap]
            rw [IfK_pos ⟨hws, by omega⟩, List.take_of_length_le (by omega)]
            generalize hM2 : Sto.set (m'.app ws) x5 _ = M2
            have hj2 : ∀ j, j < x' → j ≠ a → M2 j = m' j := fun j h1 h2 => by rw [← hM2, Sto.sne _ _ _ _ (by omega), q3 j (by omega) h2]
            have hM2a : M2 a = some (.cells [sV cU l, .i .i64 ((mkS l 3 2 2 ii).2 : Nat)] false) := by rw [← hM2, Sto.sne _ _ _ _ (by omega), q2]
            refine w4.ap (mkS l 3 2 2 ii).1 (fun j h1 h2 => hj2 j h2 (by omega)) (by omega) (by omega) (q6.wide (by omega) (by omega) (fun j h1 h2 => by rw [← hM2, Sto.sne _ _ _ _ (by omega)])) q1 rfl (by omega) ?_
            intro B' ws2 M3 z0 z1 z2 z3
            have t0 := (z2 x (by omega)).trans ((hj2 x (by omega) (by omega)).trans w3)
            have t1 := (z2 (x2 + 1) (by omega)).trans ((hj2 (x2 + 1) (by omega) (by omega)).trans w2)
            simp +contextual (disch := omega) [Nat.add_assoc, Int.add_assoc, if_pos, if_neg, -Int.not_lt, -Int.not_le, -Nat.not_lt, -Nat.not_le, -List.length_flatMap, z0, t0, t1, z1.stor, z1.cells, e0, e6, e8, e9]
            refine ⟨k, by omega, rfl, by omega, vs ++ [(mkS l 3 2 2 ii).1], z1.up (by omega) (fun j h1 h2 => Sto.sne _ _ _ _ (by omega)), by simp; omega, (mkS l 3 2 2 ii).2, (z2 a (by omega)).trans hM2a, by omega, ?_, fun j h1 h2 => ?_⟩
            · rw [w8]; simp [lvlsT]
            · rw [z2 j (by omega), hj2 j (by omega) h2, w9 j h1 h2]
    rw [if_neg h4] at hK
    have n2 : ¬ (k0 : Int) < 2 := by omega
    have n3 : ¬ (k0 : Int) < 3 := by omega
    have n4 : ¬ (k0 : Int) < 4 := by omega
    by_cases h7 : k0 < 7
    · rw [if_pos h7] at hK
      have h7' : (k0 : Int) < 7 := by omega
      simp +contextual (disch := omega) [Nat.add_assoc, Int.add_assoc, if_pos, if_neg, -Int.not_lt, -Int.not_le, -Nat.not_lt, -Nat.not_le, -List.length_flatMap, n2, n3, n4, h7', hd1]
      rw [CallX_op (by rfl)]
      refine openg_w rfl rfl (.inl rfl) ?_
      rw [hfT]
      refine ih (by omega) v (i + 1) hv (by omega) (by omega) (by omega) (by simp +contextual (disch := omega) [Nat.add_assoc, Int.add_assoc, if_pos, if_neg, -Int.not_lt, -Int.not_le, -Nat.not_lt, -Nat.not_le, -List.length_flatMap]) ?_
      intro cs1 m1 x2 q1 q2 q3 q4 q5
      simp +contextual (disch := omega) [Nat.add_assoc, Int.add_assoc, if_pos, if_neg, -Int.not_lt, -Int.not_le, -Nat.not_lt, -Nat.not_le, -List.length_flatMap, hd1]
      rw [CallX_op (by rfl)]
      refine openg_w rfl rfl (.inl rfl) ?_
      rw [hfT]
      refine ih (by omega) v (mkT l d v (i + 1)).2 hv (by omega) (by omega) (by omega) q2 ?_
      intro cs2 m2 x3 p1 p2 p3 p4 p5
      have hdr : List.drop 8 (cs1 ++ [V.i .i64 0, V.i .i64 0, V.ns, V.ns]) = [] := List.drop_of_length_le (by simp; omega)
      simp +contextual (disch := omega) [Nat.add_assoc, Int.add_assoc, if_pos, if_neg, -Int.not_lt, -Int.not_le, -Nat.not_lt, -Nat.not_le, -List.length_flatMap, q1, p1, hdr, -frzW_ms]
      generalize hMM : Sto.set m2 x3 _ = MM
      have hMj : ∀ j, j ≠ x3 → MM j = m2 j := fun j hj => by rw [← hMM, Sto.sne _ _ _ _ hj]
      have hMy : MM x3 = some (.cells (cs1 ++ cs2) false) := by rw [← hMM, Sto.seq]
      clear hMM
      have z1 := q5.wide (m' := MM) (lo' := x + 1) (x' := x3) (by omega) (by omega) (fun j r1 r2 => by rw [hMj j (by omega), p3 j (by omega) (by omega)])
      have z2 := p5.wide (m' := MM) (lo' := x + 1) (x' := x3) (by omega) (by omega) (fun j r1 r2 => by rw [hMj j (by omega)])
      obtain ⟨ids, e, hids⟩ := ((z1.app z2).ms (m' := MM) (x' := x3 + 1) (esz := 4) (n := 2) (a := x3) (ro := false) (cs := cs1 ++ cs2) (fun j r1 r2 => rfl) hMy (by omega) (by omega) (by omega) (by simp)).one 40 (by omega)
      have hA : ∀ U j, j ≤ x → aft U MM ids j = MM j := fun U j hj => aft_none _ _ _ _ (fun hc => by have := hids _ hc; omega)
      have hx : MM x = some (.cells [.i .i64 0, .i .i64 0, .ns, .ns] false) := by rw [hMj x (by omega), p3 x (by omega) (by omega), q3 x (by omega) (by omega)]; simp +contextual (disch := omega) [Nat.add_assoc, Int.add_assoc, if_pos, if_neg, -Int.not_lt, -Int.not_le, -Nat.not_lt, -Nat.not_le, -List.length_flatMap]
      have hB := law13_Bind.a 4 [(mkT l d v (i + 1)).1, (mkT l d v (mkT l d v (i + 1)).2).1] (by simp)
      rw [show sV cT [(mkT l d v (i + 1)).1, (mkT l d v (mkT l d v (i + 1)).2).1] = .sl (cT (mkT l d v (i + 1)).1 ++ cT (mkT l d v (mkT l d v (i + 1)).2).1) 2 by simp [sV]] at hB
      rw [e]
      simp +contextual (disch := omega) [Nat.add_assoc, Int.add_assoc, if_pos, if_neg, -Int.not_lt, -Int.not_le, -Nat.not_lt, -Nat.not_le, -List.length_flatMap, ansK hB, hA, hx]
      refine hK _ _ _ (cT_len _) ?_ (fun j r1 r2 => ?_) (by omega) ((FzAt.self (fun D => cT_fz _ D)).up (Nat.le_refl _) (by omega) (fun _ _ _ => rfl))
      · rw [Sto.sne _ _ _ _ (by omega), hA _ _ (by omega), hMj a (by omega), p2]
      · rw [Sto.sne _ _ _ _ (by omega), hA _ _ (by omega), hMj j (by omega), p3 j (by omega) r2, q3 j (by omega) r2]
        simp +contextual (disch := omega) [Nat.add_assoc, Int.add_assoc, if_pos, if_neg, -Int.not_lt, -Int.not_le, -Nat.not_lt, -Nat.not_le, -List.length_flatMap]
    rw [if_neg h7] at hK
    have n7 : ¬ (k0 : Int) < 7 := by omega
    by_cases h9 : k0 < 9
    · rw [if_pos h9] at hK
      have h9' : (k0 : Int) < 9 := by omega
      simp +contextual (disch := omega) [Nat.add_assoc, Int.add_assoc, if_pos, if_neg, -Int.not_lt, -Int.not_le, -Nat.not_lt, -Nat.not_le, -List.length_flatMap, n2, n3, n4, n7, h9', hd1]
      rw [CallX_op (by rfl)]
      refine openg_w rfl rfl (.inl rfl) ?_
      rw [hfT]
      refine ih (by omega) v (i + 1) hv (by omega) (by omega) (by omega) (by simp +contextual (disch := omega) [Nat.add_assoc, Int.add_assoc, if_pos, if_neg, -Int.not_lt, -Int.not_le, -Nat.not_lt, -Nat.not_le, -List.length_flatMap]) ?_
      intro cs1 m1 x2 q1 q2 q3 q4 q5
      simp +contextual (disch := omega) [Nat.add_assoc, Int.add_assoc, if_pos, if_neg, -Int.not_lt, -Int.not_le, -Nat.not_lt, -Nat.not_le, -List.length_flatMap, hd1]
      rw [CallX_op (by rfl)]
      refine openg_w rfl rfl (.inl rfl) ?_
      rw [hfT]
      show Pi.w ctx (envOf [.p a 0, .i .i64 ((v + 1 : Nat) : Int), .i .i64 ((d : Int) + 1)]) _ _ _ _ _ _ _
      refine ih (by omega) (v + 1) (mkT l d v (i + 1)).2 (by omega) (by omega) (by omega) (by omega) q2 ?_
      intro cs2 m2 x3 p1 p2 p3 p4 p5
      have hdr : List.drop 8 (cs1 ++ [V.i .i64 0, V.i .i64 0, V.ns, V.ns]) = [] := List.drop_of_length_le (by simp; omega)
      simp +contextual (disch := omega) [Nat.add_assoc, Int.add_assoc, if_pos, if_neg, -Int.not_lt, -Int.not_le, -Nat.not_lt, -Nat.not_le, -List.length_flatMap, q1, p1, hdr, -frzW_ms]
      generalize hMM : Sto.set m2 x3 _ = MM
      have hMj : ∀ j, j ≠ x3 → MM j = m2 j := fun j hj => by rw [← hMM, Sto.sne _ _ _ _ hj]
      have hMy : MM x3 = some (.cells (cs1 ++ cs2) false) := by rw [← hMM, Sto.seq]
      clear hMM
      have z1 := q5.wide (m' := MM) (lo' := x + 1) (x' := x3) (by omega) (by omega) (fun j r1 r2 => by rw [hMj j (by omega), p3 j (by omega) (by omega)])
      have z2 := p5.wide (m' := MM) (lo' := x + 1) (x' := x3) (by omega) (by omega) (fun j r1 r2 => by rw [hMj j (by omega)])
      obtain ⟨ids, e, hids⟩ := ((z1.app z2).ms (m' := MM) (x' := x3 + 1) (esz := 4) (n := 2) (a := x3) (ro := false) (cs := cs1 ++ cs2) (fun j r1 r2 => rfl) hMy (by omega) (by omega) (by omega) (by simp)).one 40 (by omega)
      have hA : ∀ U j, j ≤ x → aft U MM ids j = MM j := fun U j hj => aft_none _ _ _ _ (fun hc => by have := hids _ hc; omega)
      have hx : MM x = some (.cells [.i .i64 0, .i .i64 0, .ns, .ns] false) := by rw [hMj x (by omega), p3 x (by omega) (by omega), q3 x (by omega) (by omega)]; simp +contextual (disch := omega) [Nat.add_assoc, Int.add_assoc, if_pos, if_neg, -Int.not_lt, -Int.not_le, -Nat.not_lt, -Nat.not_le, -List.length_flatMap]
      have hB := law13_Bind.a 5 [(mkT l d v (i + 1)).1, (mkT l d (v + 1) (mkT l d v (i + 1)).2).1] (by simp)
      rw [show sV cT [(mkT l d v (i + 1)).1, (mkT l d (v + 1) (mkT l d v (i + 1)).2).1] = .sl (cT (mkT l d v (i + 1)).1 ++ cT (mkT l d (v + 1) (mkT l d v (i + 1)).2).1) 2 by simp [sV]] at hB
      rw [e]
      simp +contextual (disch := omega) [Nat.add_assoc, Int.add_assoc, if_pos, if_neg, -Int.not_lt, -Int.not_le, -Nat.not_lt, -Nat.not_le, -List.length_flatMap, ansK hB, hA, hx]
      refine hK _ _ _ (cT_len _) ?_ (fun j r1 r2 => ?_) (by omega) ((FzAt.self (fun D => cT_fz _ D)).up (Nat.le_refl _) (by omega) (fun _ _ _ => rfl))
      · rw [Sto.sne _ _ _ _ (by omega), hA _ _ (by omega), hMj a (by omega), p2]
      · rw [Sto.sne _ _ _ _ (by omega), hA _ _ (by omega), hMj j (by omega), p3 j (by omega) r2, q3 j (by omega) r2]
        simp +contextual (disch := omega) [Nat.add_assoc, Int.add_assoc, if_pos, if_neg, -Int.not_lt, -Int.not_le, -Nat.not_lt, -Nat.not_le, -List.length_flatMap]
    rw [if_neg h9] at hK
    have n9 : ¬ (k0 : Int) < 9 := by omega
    by_cases h11 : k0 < 11
    · rw [if_pos h11] at hK
      have h11' : (k0 : Int) < 11 := by omega
      simp +contextual (disch := omega) [Nat.add_assoc, Int.add_assoc, if_pos, if_neg, -Int.not_lt, -Int.not_le, -Nat.not_lt, -Nat.not_le, -List.length_flatMap, n2, n3, n4, n7, n9, h11', hd1]
      rw [CallX_op (by rfl)]
      refine openg_w rfl rfl (.inl rfl) ?_
      rw [hfT]
      refine ih (by omega) v (i + 1) hv (by omega) (by omega) (by omega) (by simp +contextual (disch := omega) [Nat.add_assoc, Int.add_assoc, if_pos, if_neg, -Int.not_lt, -Int.not_le, -Nat.not_lt, -Nat.not_le, -List.length_flatMap]) ?_
      intro cs1 m1 x2 q1 q2 q3 q4 q5
      simp +contextual (disch := omega) [Nat.add_assoc, Int.add_assoc, if_pos, if_neg, -Int.not_lt, -Int.not_le, -Nat.not_lt, -Nat.not_le, -List.length_flatMap, hd1]
      rw [CallX_op (by rfl)]
      refine openg_w rfl rfl (.inl rfl) ?_
      rw [hfT]
      show Pi.w ctx (envOf [.p a 0, .i .i64 ((v + 1 : Nat) : Int), .i .i64 ((d : Int) + 1)]) _ _ _ _ _ _ _
      refine ih (by omega) (v + 1) (mkT l d v (i + 1)).2 (by omega) (by omega) (by omega) (by omega) q2 ?_
      intro cs2 m2 x3 p1 p2 p3 p4 p5
      have hdr : List.drop 8 (cs1 ++ [V.i .i64 0, V.i .i64 0, V.ns, V.ns]) = [] := List.drop_of_length_le (by simp; omega)
      simp +contextual (disch := omega) [Nat.add_assoc, Int.add_assoc, if_pos, if_neg, -Int.not_lt, -Int.not_le, -Nat.not_lt, -Nat.not_le, -List.length_flatMap, q1, p1, hdr, -frzW_ms]
      generalize hMM : Sto.set m2 x3 _ = MM
      have hMj : ∀ j, j ≠ x3 → MM j = m2 j := fun j hj => by rw [← hMM, Sto.sne _ _ _ _ hj]
      have hMy : MM x3 = some (.cells (cs1 ++ cs2) false) := by rw [← hMM, Sto.seq]
      clear hMM
      have z1 := q5.wide (m' := MM) (lo' := x + 1) (x' := x3) (by omega) (by omega) (fun j r1 r2 => by rw [hMj j (by omega), p3 j (by omega) (by omega)])
      have z2 := p5.wide (m' := MM) (lo' := x + 1) (x' := x3) (by omega) (by omega) (fun j r1 r2 => by rw [hMj j (by omega)])
      obtain ⟨ids, e, hids⟩ := ((z1.app z2).ms (m' := MM) (x' := x3 + 1) (esz := 4) (n := 2) (a := x3) (ro := false) (cs := cs1 ++ cs2) (fun j r1 r2 => rfl) hMy (by omega) (by omega) (by omega) (by simp)).one 40 (by omega)
      have hA : ∀ U j, j ≤ x → aft U MM ids j = MM j := fun U j hj => aft_none _ _ _ _ (fun hc => by have := hids _ hc; omega)
      have hx : MM x = some (.cells [.i .i64 0, .i .i64 0, .ns, .ns] false) := by rw [hMj x (by omega), p3 x (by omega) (by omega), q3 x (by omega) (by omega)]; simp +contextual (disch := omega) [Nat.add_assoc, Int.add_assoc, if_pos, if_neg, -Int.not_lt, -Int.not_le, -Nat.not_lt, -Nat.not_le, -List.length_flatMap]
      have hB := law13_Bind.a 6 [(mkT l d v (i + 1)).1, (mkT l d (v + 1) (mkT l d v (i + 1)).2).1] (by simp)
      rw [show sV cT [(mkT l d v (i + 1)).1, (mkT l d (v + 1) (mkT l d v (i + 1)).2).1] = .sl (cT (mkT l d v (i + 1)).1 ++ cT (mkT l d (v + 1) (mkT l d v (i + 1)).2).1) 2 by simp [sV]] at hB
      rw [e]
      simp +contextual (disch := omega) [Nat.add_assoc, Int.add_assoc, if_pos, if_neg, -Int.not_lt, -Int.not_le, -Nat.not_lt, -Nat.not_le, -List.length_flatMap, ansK hB, hA, hx]
      refine hK _ _ _ (cT_len _) ?_ (fun j r1 r2 => ?_) (by omega) ((FzAt.self (fun D => cT_fz _ D)).up (Nat.le_refl _) (by omega) (fun _ _ _ => rfl))
      · rw [Sto.sne _ _ _ _ (by omega), hA _ _ (by omega), hMj a (by omega), p2]
      · rw [Sto.sne _ _ _ _ (by omega), hA _ _ (by omega), hMj j (by omega), p3 j (by omega) r2, q3 j (by omega) r2]
        simp +contextual (disch := omega) [Nat.add_assoc, Int.add_assoc, if_pos, if_neg, -Int.not_lt, -Int.not_le, -Nat.not_lt, -Nat.not_le, -List.length_flatMap]
    rw [if_neg h11] at hK
    have n11 : ¬ (k0 : Int) < 11 := by omega
    · simp +contextual (disch := omega) [Nat.add_assoc, Int.add_assoc, if_pos, if_neg, -Int.not_lt, -Int.not_le, -Nat.not_lt, -Nat.not_le, -List.length_flatMap, n2, n3, n4, n7, n9, n11, hd1]
      rw [CallX_op (by rfl)]
      refine openg_w rfl rfl (.inl rfl) ?_
      rw [hfT]
      refine ih (by omega) v (i + 1) hv (by omega) (by omega) (by omega) (by simp +contextual (disch := omega) [Nat.add_assoc, Int.add_assoc, if_pos, if_neg, -Int.not_lt, -Int.not_le, -Nat.not_lt, -Nat.not_le, -List.length_flatMap]) ?_
      intro cs1 m1 x2 q1 q2 q3 q4 q5
      simp +contextual (disch := omega) [Nat.add_assoc, Int.add_assoc, if_pos, if_neg, -Int.not_lt, -Int.not_le, -Nat.not_lt, -Nat.not_le, -List.length_flatMap, hd1]
      rw [CallX_op (by rfl)]
      refine openg_w rfl rfl (.inl rfl) ?_
      rw [hfT]
      refine ih (by omega) v (mkT l d v (i + 1)).2 hv (by omega) (by omega) (by omega) q2 ?_
      intro cs2 m2 x3 p1 p2 p3 p4 p5
      simp +contextual (disch := omega) [Nat.add_assoc, Int.add_assoc, if_pos, if_neg, -Int.not_lt, -Int.not_le, -Nat.not_lt, -Nat.not_le, -List.length_flatMap, hd1]
      rw [CallX_op (by rfl)]
      refine openg_w rfl rfl (.inl rfl) ?_
      rw [hfT]
      show Pi.w ctx (envOf [.p a 0, .i .i64 ((v + 1 : Nat) : Int), .i .i64 ((d : Int) + 1)]) _ _ _ _ _ _ _
      refine ih (by omega) (v + 1) (mkT l d v (mkT l d v (i + 1)).2).2 (by omega) (by omega) (by omega) (by omega) p2 ?_
      intro cs3 m3 x4 s1 s2 s3 s4 s5
      have hd1 : List.drop 8 (cs1 ++ [V.i .i64 0, V.i .i64 0, V.ns, V.ns, V.i .i64 0, V.i .i64 0, V.ns, V.ns]) = [V.i .i64 0, V.i .i64 0, V.ns, V.ns] := by
        rw [List.drop_append, List.drop_of_length_le (by omega), q1]; rfl
      have hd2 : List.take 8 (cs1 ++ (cs2 ++ [V.i .i64 0, V.i .i64 0, V.ns, V.ns])) = cs1 ++ cs2 := by
        rw [← List.append_assoc, List.take_append_of_le_length (by simp; omega), List.take_of_length_le (by simp; omega)]
      have hd3 : List.drop 12 (cs1 ++ (cs2 ++ [V.i .i64 0, V.i .i64 0, V.ns, V.ns])) = [] := List.drop_of_length_le (by simp; omega)
      simp +contextual (disch := omega) [Nat.add_assoc, Int.add_assoc, if_pos, if_neg, -Int.not_lt, -Int.not_le, -Nat.not_lt, -Nat.not_le, -List.length_flatMap, q1, p1, s1, hd1, hd2, hd3, -frzW_ms]
      generalize hMM : Sto.set m3 x4 _ = MM
      have hMj : ∀ j, j ≠ x4 → MM j = m3 j := fun j hj => by rw [← hMM, Sto.sne _ _ _ _ hj]
      have hMy : MM x4 = some (.cells (cs1 ++ (cs2 ++ cs3)) false) := by rw [← hMM, Sto.seq]
      clear hMM
      have z1 := q5.wide (m' := MM) (lo' := x + 1) (x' := x4) (by omega) (by omega) (fun j r1 r2 => by rw [hMj j (by omega), s3 j (by omega) (by omega), p3 j (by omega) (by omega)])
      have z2 := p5.wide (m' := MM) (lo' := x + 1) (x' := x4) (by omega) (by omega) (fun j r1 r2 => by rw [hMj j (by omega), s3 j (by omega) (by omega)])
      have z3 := s5.wide (m' := MM) (lo' := x + 1) (x' := x4) (by omega) (by omega) (fun j r1 r2 => by rw [hMj j (by omega)])
      obtain ⟨ids, e, hids⟩ := ((z1.app (z2.app z3)).ms (m' := MM) (x' := x4 + 1) (esz := 4) (n := 3) (a := x4) (ro := false) (cs := cs1 ++ (cs2 ++ cs3)) (fun j r1 r2 => rfl) hMy (by omega) (by omega) (by omega) (by simp)).one 40 (by omega)
      have hA : ∀ U j, j ≤ x → aft U MM ids j = MM j := fun U j hj => aft_none _ _ _ _ (fun hc => by have := hids _ hc; omega)
      have hx : MM x = some (.cells [.i .i64 0, .i .i64 0, .ns, .ns] false) := by rw [hMj x (by omega), s3 x (by omega) (by omega), p3 x (by omega) (by omega), q3 x (by omega) (by omega)]; simp +contextual (disch := omega) [Nat.add_assoc, Int.add_assoc, if_pos, if_neg, -Int.not_lt, -Int.not_le, -Nat.not_lt, -Nat.not_le, -List.length_flatMap]
      have hB := law13_Bind.a 7 [(mkT l d v (i + 1)).1, (mkT l d v (mkT l d v (i + 1)).2).1, (mkT l d (v + 1) (mkT l d v (mkT l d v (i + 1)).2).2).1] (by simp)
      rw [show sV cT [(mkT l d v (i + 1)).1, (mkT l d v (mkT l d v (i + 1)).2).1, (mkT l d (v + 1) (mkT l d v (mkT l d v (i + 1)).2).2).1] = .sl (cT (mkT l d v (i + 1)).1 ++ (cT (mkT l d v (mkT l d v (i + 1)).2).1 ++ cT (mkT l d (v + 1) (mkT l d v (mkT l d v (i + 1)).2).2).1)) 3 by simp [sV]] at hB
      rw [e]
      simp +contextual (disch := omega) [Nat.add_assoc, Int.add_assoc, if_pos, if_neg, -Int.not_lt, -Int.not_le, -Nat.not_lt, -Nat.not_le, -List.length_flatMap, ansK hB, hA, hx]
      refine hK _ _ _ (cT_len _) ?_ (fun j r1 r2 => ?_) (by omega) ((FzAt.self (fun D => cT_fz _ D)).up (Nat.le_refl _) (by omega) (fun _ _ _ => rfl))
      · rw [Sto.sne _ _ _ _ (by omega), hA _ _ (by omega), hMj a (by omega), s2]
      · rw [Sto.sne _ _ _ _ (by omega), hA _ _ (by omega), hMj j (by omega), s3 j (by omega) r2, p3 j (by omega) r2, q3 j (by omega) r2]
        simp +contextual (disch := omega) [Nat.add_assoc, Int.add_assoc, if_pos, if_neg, -Int.not_lt, -Int.not_le, -Nat.not_lt, -Nat.not_le, -List.length_flatMap]
end Pi


set_option linter.unusedSimpArgs false
set_option linter.unusedVariables false
namespace Pi
end Pi


set_option linter.unusedSimpArgs false
set_option linter.unusedVariables false
namespace Pi
theorem rightS_wide (l : L) : ∀ (p q p' q' d : Int), p ≤ p' → q ≤ q' → rightS l p q d = true → rightS l p' q' d = true := by
  induction l using L.ind with
  | h l ih =>
    intro p q p' q' d hp hq h
    obtain ⟨h1, h2, h3, h4⟩ := right_kid h
    rw [rightS_eq]
    simp only [Bool.and_eq_true, decide_eq_true_eq, Bool.not_eq_true', List.any_eq_false, Bool.not_eq_false]
    refine ⟨⟨⟨h1, h2⟩, ?_⟩, fun k hk => ih k hk p q p' q' (d - 1) hp hq (h4 k hk)⟩
    unfold namedS at h3 ⊢
    split
    · rename_i hk; rw [if_pos hk] at h3; simp at h3 ⊢; omega
    · rename_i hk; rw [if_neg hk] at h3
      split
      · rename_i hk; rw [if_pos hk] at h3; simp at h3 ⊢; omega
      · rename_i hk; rw [if_neg hk] at h3; exact h3
theorem mkS_R (l : List Nat) (p q d i : Nat) (hp : p ≤ 5) (hq : q ≤ 10) (hd : d ≤ 4) : RightS (mkS l p q (d + 1) i).1 5 10 = true := by
  have h1 := mkS_right l p q d i
  have h2 := mkS_sz l p q d i
  have h3 : 2 ^ (d + 1) ≤ 2 ^ 5 := Nat.pow_le_pow_right (by omega) (by omega)
  exact RightS_of (p := 5) (q := 10) (by omega) (by omega) (by omega) (rightS_up _ 5 10 _ 12 (by omega) (rightS_wide _ p q 5 10 _ (by omega) (by omega) h1))
theorem lvlsT_R (l : List Nat) : ∀ c i, (∀ x ∈ (lvlsT l c i).1, RightS x 5 10 = true ∧ L.Ok x)
  | 0, i => by simp [lvlsT]
  | c + 1, i => by
    intro x hx
    simp only [lvlsT, List.mem_cons] at hx
    rcases hx with rfl | hx
    · exact ⟨mkS_R l 3 2 1 i (by omega) (by omega) (by omega), mkS_ok l 3 2 (by omega) (by omega) 2 i⟩
    · exact lvlsT_R l c _ x hx
theorem leafT_good (l : List Nat) (v k i V : Nat) (D : Int) (hv : 0 < v) (hV : v ≤ V) (hD : 0 < D) (hb : V ≤ 1000000) : (leafT l v k i).1.Ok ∧ rightT (leafT l v k i).1 V 5 10 D = true ∧ szT (leafT l v k i).1 = 1 := by
  unfold leafT
  split
  · have hp := pickS_lt l i v hv
    refine ⟨.mk (by simp) (by simp) (by omega) (by omega) (by simp) (by simp), rightT_of hD (by simp [kidsT]) ?_ (by simp) (by simp), by simp [szT_eq, szTs]⟩
    simp [namedT]; omega
  · split
    · have ho := mkS_ok l 3 2 (by omega) (by omega) 3 i
      have hr := mkS_R l 3 2 2 i (by omega) (by omega) (by omega)
      refine ⟨.mk (by simp) (by simp) (by omega) (by omega) (by simpa using ho) (by simp), rightT_of hD (by simp [kidsT]) (by simp [namedT]) (by simpa using hr) (by simp), by simp [szT_eq, szTs]⟩
    · have hp := pickS_lt l i 4 (by omega)
      have hc := pickS_lt l (i + 1) 3 (by omega)
      have hl := (lvlsT_bd l (pickS l (i + 1) 3) (i + 2)).2.2
      have hR := lvlsT_R l (pickS l (i + 1) 3) (i + 2)
      refine ⟨Tm.Ok.mk (k := 3) (n := (pickS l i 4 : Nat)) (ls := (lvlsT l (pickS l (i + 1) 3) (i + 2)).1) (ks := []) (by omega) (by simp) (by omega) (by omega) (fun x hx => (hR x hx).2) (by simp), rightT_of hD (by simp [kidsT]) ?_ (fun x hx => (hR x hx).1) (by simp), by simp [szT_eq, szTs]⟩
      simp only [namedT, Tm.kind_mk, Tm.n_mk, Tm.lvls_mk, hl]
      simp
      exact ⟨decide_eq_true (by omega), by omega⟩
theorem two_good {k : Int} {a b : Tm} {V : Int} {D : Int} (hk : k = 4 ∨ k = 5 ∨ k = 6) (oa : a.Ok) (ob : b.Ok) (hD : 0 < D) (ha : rightT a V 5 10 D = true) (hb : rightT b (V + (if k = 4 then 0 else 1)) 5 10 D = true) : (Tm.mk k 0 [] [a, b]).Ok ∧ rightT (.mk k 0 [] [a, b]) V 5 10 (D + 1) = true := by
  refine ⟨.mk (by simp) (by simp) (by omega) (by omega) (by simp) (by simp [oa, ob]), rightT_of (by omega) ?_ ?_ (by simp) ?_⟩
  · rcases hk with rfl | rfl | rfl <;> simp [kidsT]
  · rcases hk with rfl | rfl | rfl <;> simp [namedT]
  · intro j hj
    rw [show D + 1 - 1 = D by omega]
    have hj2 : j < 2 := by simpa using hj
    rcases (by omega : j = 0 ∨ j = 1) with rfl | rfl
    · rcases hk with rfl | rfl | rfl <;> simpa [bindT] using ha
    · rcases hk with rfl | rfl | rfl <;> simpa [bindT] using hb
theorem let_good {a b c : Tm} {V : Int} {D : Int} (oa : a.Ok) (ob : b.Ok) (oc : c.Ok) (hD : 0 < D) (ha : rightT a V 5 10 D = true) (hb : rightT b V 5 10 D = true) (hc : rightT c (V + 1) 5 10 D = true) : (Tm.mk 7 0 [] [a, b, c]).Ok ∧ rightT (.mk 7 0 [] [a, b, c]) V 5 10 (D + 1) = true := by
  refine ⟨.mk (by simp) (by simp) (by omega) (by omega) (by simp) (by simp [oa, ob, oc]), rightT_of (by omega) (by simp [kidsT]) (by simp [namedT]) (by simp) ?_⟩
  intro j hj
  rw [show D + 1 - 1 = D by omega]
  have hj2 : j < 3 := by simpa using hj
  rcases (by omega : j = 0 ∨ j = 1 ∨ j = 2) with rfl | rfl | rfl
  · simpa [bindT] using ha
  · simpa [bindT] using hb
  · simpa [bindT] using hc
theorem szT_2 (k n : Int) (ls : List L) (a b : Tm) : szT (.mk k n ls [a, b]) = 1 + szT a + szT b := by rw [szT_eq]; simp [szTs]; omega
theorem szT_3 (k n : Int) (ls : List L) (a b c : Tm) : szT (.mk k n ls [a, b, c]) = 1 + szT a + szT b + szT c := by rw [szT_eq]; simp [szTs]; omega
theorem mkT_good (l : List Nat) : ∀ (d v i V : Nat), 0 < v → v ≤ V → V + d ≤ 1000000 → (mkT l d v i).1.Ok ∧ rightT (mkT l d v i).1 V 5 10 ((d : Int) + 1) = true ∧ szT (mkT l d v i).1 < 4 ^ (d + 1)
  | 0, v, i, V, hv, hV, hb => by
    obtain ⟨h1, h2, h3⟩ := leafT_good l v (pickS l i 12 % 4) (i + 1) V ((0 : Nat) + 1) hv hV (by omega) (by omega)
    exact ⟨h1, h2, by simp only [mkT]; omega⟩
  | d + 1, v, i, V, hv, hV, hb => by
    have hp : 4 ^ (d + 1 + 1) = 4 * 4 ^ (d + 1) := by rw [Nat.pow_succ, Nat.mul_comm]
    have hq : 1 ≤ 4 ^ (d + 1) := Nat.one_le_pow _ _ (by omega)
    simp only [mkT]
    rw [hp]
    split
    · obtain ⟨h1, h2, h3⟩ := leafT_good l v (pickS l i 12) (i + 1) V ((d + 1 : Nat) + 1) hv hV (by omega) (by omega)
      exact ⟨h1, h2, by omega⟩
    · obtain ⟨a1, a2, a3⟩ := mkT_good l d v (i + 1) V hv hV (by omega)
      split
      · obtain ⟨b1, b2, b3⟩ := mkT_good l d v (mkT l d v (i + 1)).2 V hv hV (by omega)
        obtain ⟨c1, c2⟩ := two_good (k := 4) (.inl rfl) a1 b1 (by omega) a2 (by simpa using b2)
        exact ⟨c1, c2, by simp only [szT_2]; omega⟩
      · obtain ⟨b1, b2, b3⟩ := mkT_good l d (v + 1) (mkT l d v (i + 1)).2 (V + 1) (by omega) (by omega) (by omega)
        split
        · obtain ⟨c1, c2⟩ := two_good (k := 5) (.inr (.inl rfl)) a1 b1 (by omega) a2 (by simpa using b2)
          exact ⟨c1, c2, by simp only [szT_2]; omega⟩
        · split
          · obtain ⟨c1, c2⟩ := two_good (k := 6) (.inr (.inr rfl)) a1 b1 (by omega) a2 (by simpa using b2)
            exact ⟨c1, c2, by simp only [szT_2]; omega⟩
          · obtain ⟨b1, b2, b3⟩ := mkT_good l d v (mkT l d v (i + 1)).2 V hv hV (by omega)
            obtain ⟨e1, e2, e3⟩ := mkT_good l d (v + 1) (mkT l d v (mkT l d v (i + 1)).2).2 (V + 1) (by omega) (by omega) (by omega)
            obtain ⟨c1, c2⟩ := let_good a1 b1 e1 (by omega) a2 b2 (by simpa using e2)
            exact ⟨c1, c2, by simp only [szT_3]; omega⟩
theorem rightT_up (t : Tm) : ∀ (v p q d d' : Int), d ≤ d' → rightT t v p q d = true → rightT t v p q d' = true := by
  induction t using Tm.ind with
  | h t ih =>
    intro v p q d d' hd h
    obtain ⟨h1, h2, h3, h4, h5⟩ := rightT_at h
    exact rightT_of (by omega) h2 h3 h4 (fun j hj => ih _ (List.getElem_mem hj) _ p q _ _ (by omega) (h5 j hj))
def madeT (l : List Nat) : Tm := (mkT l 3 3 0).1
theorem madeT_good (l : List Nat) : (madeT l).Ok ∧ rightT (madeT l) 1000 5 10 30 = true ∧ szT (madeT l) ≤ 255 ∧ RightT (madeT l) 1000 5 10 = true := by
  obtain ⟨h1, h2, h3⟩ := mkT_good l 3 3 0 1000 (by omega) (by omega) (by omega)
  have h4 : rightT (madeT l) 1000 5 10 30 = true := rightT_up _ _ _ _ _ _ (by omega) h2
  have h5 : szT (madeT l) ≤ 255 := by unfold madeT; have : 4 ^ (3 + 1) = 256 := rfl; omega
  have h6 := parts_le (madeT l) 601
  refine ⟨h1, h4, h5, ?_⟩
  unfold RightT
  rw [if_neg (by omega)]
  simp only [Bool.and_eq_true, decide_eq_true_eq]
  exact ⟨by omega, h4⟩
theorem law13_Made.a (l : List Nat) (hb : Byt l) : Ans ctx law13_Made.n [sV cU l] (.ag (cT (madeT l))) := by
  refine ans law13_Made.f ?_
  have hfT : ctx.frz law13_Term.n = false := rfl
  simp +contextual (disch := omega) [Nat.add_assoc, Int.add_assoc, if_pos, if_neg, -Int.not_lt, -Int.not_le, -Nat.not_lt, -Nat.not_le, -List.length_flatMap, law13_Made.c]
  rw [CallX_op (by rfl)]
  refine openg_w rfl rfl (.inl rfl) ?_
  rw [hfT]
  show Pi.w ctx (envOf [.p 3 0, .i .i64 ((3 : Nat) : Int), .i .i64 (((3 : Nat) : Int) + 1)]) _ _ _ _ _ _ _
  refine law13_Term.w l hb 3 3 (by omega) 3 0 (by omega) (by omega) (by omega) (by omega) (by simp +contextual (disch := omega) [Nat.add_assoc, Int.add_assoc, if_pos, if_neg, -Int.not_lt, -Int.not_le, -Nat.not_lt, -Nat.not_le, -List.length_flatMap]) ?_
  intro cs m' x' h1 h2 h3 h4 h5
  have h0 := h3 0 (by omega) (by omega)
  simp (disch := omega) at h0
  have ht : cs.take 4 = cs := List.take_of_length_le (by omega)
  have hd : cs.drop 4 = [] := List.drop_of_length_le (by omega)
  obtain ⟨ids, q⟩ := (h5.up (m' := m'.set 0 (some (.cells cs false))) (Nat.le_refl _) (Nat.le_refl _) (by simp +contextual (disch := omega) [Nat.add_assoc, Int.add_assoc, if_pos, if_neg, -Int.not_lt, -Int.not_le, -Nat.not_lt, -Nat.not_le, -List.length_flatMap])).at 40 (by omega)
  simp +contextual (disch := omega) [Nat.add_assoc, Int.add_assoc, if_pos, if_neg, -Int.not_lt, -Int.not_le, -Nat.not_lt, -Nat.not_le, -List.length_flatMap, h0, h1, ht, hd, q, madeT]
end Pi


set_option linter.unusedSimpArgs false
set_option linter.unusedVariables false
namespace Pi
end Pi


set_option linter.unusedSimpArgs false
set_option linter.unusedVariables false
namespace Pi
end Pi


set_option linter.unusedSimpArgs false
set_option linter.unusedVariables false
namespace Pi
theorem ref02_Nodes2.a (l : L) : l.Ok → ∀ most, -2000 < most → most < 2000 → Ans ctx ref02_Nodes.n [.ag (cL l), .i .i64 most] (.i .i64 (nodesS l most)) := by
  induction l using L.ind with
  | h l ih =>
  intro ok most h1 h2
  have hlen := ok.len
  refine ans ref02_Nodes.f ?_
  simp +contextual (disch := omega) [Nat.add_assoc, Int.add_assoc, if_pos, if_neg, -Int.not_lt, -Int.not_le, -Nat.not_lt, -Nat.not_le, -List.length_flatMap, ref02_Nodes.c]
  refine for_w (fun i e m x => e 1 = .i .i64 most ∧ e 2 = .p 0 0 ∧ m 0 = some (.cells (cL l) false) ∧ e 6 = .i .i64 i ∧ ∃ n, e 5 = .i .i64 n ∧ (l.kids.take i).foldl (nodesF most) 1 = n ∧ 1 ≤ n ∧ (n ≤ most ∨ n = 1)) l.kids.length ?_ ?_ ?_
  · simp
  · rintro i e m x hi ⟨g1, g2, g3, g4, n, g5, g6, g7, g8⟩
    have hk := ih l.kids[i] (List.getElem_mem hi) (ok.at hi)
    have hb := nodesS_bd l.kids[i] (most - n)
    have hs := nodesS_stop l (i := i) (most := most)
    rw [g6] at hs
    simp +contextual (disch := omega) [Nat.add_assoc, Int.add_assoc, if_pos, if_neg, -Int.not_lt, -Int.not_le, -Nat.not_lt, -Nat.not_le, -List.length_flatMap, ref02_Nodes.b1, hi, g1, g2, g3, g4, g5, g6, ansK (hk _ _ _), take_fold, nodesF, hs, IfK]
    omega
  · rintro e m x ⟨g1, g2, g3, g4, n, g5, g6, g7, g8⟩
    simp +contextual (disch := omega) [Nat.add_assoc, Int.add_assoc, if_pos, if_neg, -Int.not_lt, -Int.not_le, -Nat.not_lt, -Nat.not_le, -List.length_flatMap, ref02_Nodes.b1, g1, g2, g3, g4, g5]
    simpa [nodesS_eq] using g6.symm
theorem putTm_tu (t : Tm) : ∃ s : List Nat, ∃ e : Int, putTm t = .tu [.s (bs s), .i .i64 e] := by
  unfold putTm
  split
  · exact ⟨_, _, rfl⟩
  · exact ⟨_, _, rfl⟩
set_option maxHeartbeats 2000000 in
theorem law14_TcodePut.a (t : Tm) (ok : t.Ok) (l : List Nat) (hl : l.length ≤ 9223372036854775807) (hb : Byt l) : Ans ctx law14_TcodePut.n [.ag (cT t), sV cU l] (.b true) := by
  have hllen := ok.llen
  have hM : Ans ctx law13_Made.n [sV cU l] (.ag (cT (madeT l))) := law13_Made.a l hb
  obtain ⟨ok2, _, _, _⟩ := madeT_good l
  generalize madeT l = u at *
  have p1 := tcode_Put.a t ok
  have q1 := ref14_Put.a t ok
  have p2 := tcode_Put.a u ok2
  have q2 := ref14_Put.a u ok2
  obtain ⟨s1, e1, h1⟩ := putTm_tu t
  obtain ⟨s2, e2, h2⟩ := putTm_tu u
  rw [h1] at p1 q1
  rw [h2] at p2 q2
  have hp := partsT_bd t 1001
  refine ans law14_TcodePut.f ?_
  simp +contextual (disch := omega) [Nat.add_assoc, Int.add_assoc, if_pos, if_neg, -Int.not_lt, -Int.not_le, -Nat.not_lt, -Nat.not_le, -List.length_flatMap, law14_TcodePut.c, ansK (ref13_Parts.a t ok _ _ _)]
  refine while_w (fun k e m x => ∃ (i : Nat) (n : Int), e 1 = sV cU l ∧ e 2 = .p 0 0 ∧ m 0 = some (.cells (cT t) false) ∧ e 5 = .i .i64 n ∧ e 6 = .i .i64 i ∧ 1 ≤ n ∧ n ≤ 2010 ∧ i + k = t.lvls.length) t.lvls.length ?_ ?_
  · exact ⟨0, partsT t 1001, by simp +contextual (disch := omega) [Nat.add_assoc, Int.add_assoc, if_pos, if_neg, -Int.not_lt, -Int.not_le, -Nat.not_lt, -Nat.not_le, -List.length_flatMap]; omega⟩
  · rintro k e m x ⟨i, n, g1, g2, m0, g5, g6, g7, g8, g9⟩
    by_cases hi : i < t.lvls.length ∧ n ≤ 1000
    · obtain ⟨hi, hn⟩ := hi
      have hk := ref02_Nodes2.a t.lvls[i] (ok.lat hi) 1001 (by omega) (by omega)
      have hb := nodesS_bd t.lvls[i] 1001
      simp +contextual (disch := omega) [Nat.add_assoc, Int.add_assoc, if_pos, if_neg, -Int.not_lt, -Int.not_le, -Nat.not_lt, -Nat.not_le, -List.length_flatMap, law14_TcodePut.b1, g1, g2, m0, g5, g6, hi, hn, ansK hk]
      exact ⟨k - 1, by omega, i + 1, by omega, by omega, by omega, by omega⟩
    · by_cases hn : n ≤ 1000
      · have hi2 : ¬ i < t.lvls.length := fun h => hi ⟨h, hn⟩
        have hn2 : ¬ n > 1000 := by omega
        have ht : List.take 4 (cT t ++ [V.i .i64 0, V.i .i64 0, V.ns, V.ns]) = cT t := by rw [List.take_append_of_le_length (by simp)]; simp
        have hd : List.drop 8 (cT t ++ [V.i .i64 0, V.i .i64 0, V.ns, V.ns]) = [] := List.drop_of_length_le (by simp)
        have ht2 : List.take 4 (cT t ++ cT u) = cT t := by rw [List.take_append_of_le_length (by simp)]; simp
        have hd2 : List.drop 4 (cT t ++ cT u) = cT u := by rw [List.drop_append_of_le_length (by simp), List.drop_of_length_le (by simp)]; rfl
        simp +contextual (disch := omega) [Nat.add_assoc, Int.add_assoc, if_pos, if_neg, -Int.not_lt, -Int.not_le, -Nat.not_lt, -Nat.not_le, -List.length_flatMap, law14_TcodePut.b1, g1, g2, m0, g5, g6, hi2, hn, hn2, ansK hM, ht, hd]
        refine un_w ?_
        simp +contextual (disch := omega) [Nat.add_assoc, Int.add_assoc, if_pos, if_neg, -Int.not_lt, -Int.not_le, -Nat.not_lt, -Nat.not_le, -List.length_flatMap, law14_TcodePut.b2, ht2, hd2, ansK p1, ansK q1]
        refine un_w ?_
        simp +contextual (disch := omega) [Nat.add_assoc, Int.add_assoc, if_pos, if_neg, -Int.not_lt, -Int.not_le, -Nat.not_lt, -Nat.not_le, -List.length_flatMap, law14_TcodePut.b2, ht2, hd2, ansK p2, ansK q2]
        refine un_w ?_
        simp +contextual (disch := omega) [Nat.add_assoc, Int.add_assoc, if_pos, if_neg, -Int.not_lt, -Int.not_le, -Nat.not_lt, -Nat.not_le, -List.length_flatMap, law14_TcodePut.b2]
      · have hn2 : n > 1000 := by omega
        by_cases hi2 : i < t.lvls.length
        · simp +contextual (disch := omega) [Nat.add_assoc, Int.add_assoc, if_pos, if_neg, -Int.not_lt, -Int.not_le, -Nat.not_lt, -Nat.not_le, -List.length_flatMap, law14_TcodePut.b1, g1, g2, m0, g5, g6, hi2, hn, hn2]
        · simp +contextual (disch := omega) [Nat.add_assoc, Int.add_assoc, if_pos, if_neg, -Int.not_lt, -Int.not_le, -Nat.not_lt, -Nat.not_le, -List.length_flatMap, law14_TcodePut.b1, g1, g2, m0, g5, g6, hi2, hn, hn2]
end Pi


set_option linter.unusedSimpArgs false
set_option linter.unusedVariables false
namespace Pi
open Go (TypeId Program)
section
variable {P : Program} {n : Nat} {t e : TypeId}
theorem p_term {tI tLs tTs tL tS : TypeId} {fs gs : Array Go.Field} (hu : P.underlying t = some (.struct fs)) (hf : fs.toList.map (·.type) = [tI, tI, tLs, tTs]) (hI : P.underlying tI = some (.int .i64)) (hLs : P.underlying tLs = some (.slice tL)) (hTs : P.underlying tTs = some (.slice t))
    (hL : P.underlying tL = some (.struct gs)) (hg : gs.toList.map (·.type) = [tI, tI, tS]) (hS : P.underlying tS = some (.slice tL))
    (m : Nat) : ∀ (p : List V), Tv P m t p → ∃ a : Tm, p = cT a ∧ a.Ok := by
  induction m using Nat.strongRecOn with
  | ind m ih =>
    intro p h
    obtain ⟨k, rfl, q⟩ := tv_st hu h
    rw [hf, TvF_cons] at q
    obtain ⟨p1, r1, rfl, _, h1, q⟩ := q
    rw [TvF_cons] at q
    obtain ⟨p2, r2, rfl, _, h2, q⟩ := q
    rw [TvF_cons] at q
    obtain ⟨p3, r3, rfl, _, h3, q⟩ := q
    rw [TvF_cons] at q
    obtain ⟨p4, r4, rfl, _, h4, q⟩ := q
    rw [TvF_nil] at q
    subst q
    obtain ⟨x, rfl, hx⟩ := tv_int hI h1
    obtain ⟨y, rfl, hy⟩ := tv_int hI h2
    obtain ⟨ls, rfl, hl, hQ⟩ := tv_sl hLs (fun m p hp hm => p_L hL hg hI hS m p hp) h3
    obtain ⟨l, rfl, hl4, hQ4⟩ := tv_sl hTs (fun m p hp hm => ih m (by omega) p hp) h4
    refine ⟨.mk x y ls l, ?_, .mk (by omega) (by omega) (wf_i64 hx) (wf_i64 hy) hQ hQ4⟩
    rw [cT_at]
    rfl
theorem a_term {tI tLs tTs tL tS : TypeId} {fs gs : Array Go.Field} (hu : P.underlying t = some (.struct fs)) (hf : fs.toList.map (·.type) = [tI, tI, tLs, tTs]) (hI : P.underlying tI = some (.int .i64)) (hLs : P.underlying tLs = some (.slice tL)) (hTs : P.underlying tTs = some (.slice t))
    (hL : P.underlying tL = some (.struct gs)) (hg : gs.toList.map (·.type) = [tI, tI, tS]) (hI2 : P.underlying tI = some (.int .i64)) (hS : P.underlying tS = some (.slice tL))
    {v : V} (h : TvA P n t v) : ∃ a : Tm, v = .ag (cT a) ∧ a.Ok := by
  obtain ⟨vs, rfl, hh⟩ := tvA_st hu h
  obtain ⟨a, rfl, ha⟩ := p_term hu hf hI hLs hTs hL hg hS n vs hh
  exact ⟨a, rfl, ha⟩
end
end Pi

