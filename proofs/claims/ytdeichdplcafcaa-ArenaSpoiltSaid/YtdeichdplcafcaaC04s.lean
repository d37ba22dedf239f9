/- Laws of layer 4: arenas with one thing spoilt. -/
import Derived.Test.YtdeichdplcafcaaC04r
set_option linter.unusedSimpArgs false
set_option linter.unusedVariables false
namespace Pi
set_option maxRecDepth 20000 in
theorem law04_Arena.w (ls : List (List Nat)) (hb : ∀ l ∈ ls, Byt l) (hl : ls.length ≤ 9223372036854775807) {m : Sto} {x : Nat} {K : CR → Sto → Nat → Prop}
    (hK : ∀ B m' x', x ≤ x' → (∀ j, j < x → m' j = m j) → Eg m' B cN 4 (arenaS ls) x x' → K (.ret (.ag [B])) m' x') :
    Pi.w ctx (envOf [sV cY ls]) m x [] none none (RetG ctx law04_Arena.c.rs K) law04_Arena.c.code := by
  obtain ⟨M, hM⟩ : ∃ M, M = min ls.length 8 := ⟨_, rfl⟩
  unfold arenaS at hK
  rw [← hM] at hK
  simp +contextual (disch := omega) [Nat.add_assoc, Int.add_assoc, if_pos, if_neg, -Int.not_lt, -Int.not_le, -Nat.not_lt, -Nat.not_le, -List.length_flatMap, law04_Arena.c]
  have hfo : ctx.frz ref04_Put.n = false := rfl
  refine for_w (fun i e m' x' => e 0 = sV cY ls ∧ e 2 = .p x 0 ∧ e 3 = .p (x + 1) 0 ∧ e 4 = .i .i64 i ∧ x + 2 ≤ x' ∧ m' x = some (.cells [.ns] false) ∧ (∃ B, m' (x + 1) = some (.cells [B] false) ∧ Eg m' B cN 4 (arenaT ls i) (x + 2) x') ∧ ∀ j, j < x → m' j = m j) M ?_ ?_ ?_
  · simp +contextual (disch := omega) [Nat.add_assoc, Int.add_assoc, if_pos, if_neg, -Int.not_lt, -Int.not_le, -Nat.not_lt, -Nat.not_le, -List.length_flatMap]
    exact Eg.nil
  · rintro i e m' x' hi ⟨g0, g2, g3, g4, gx, y0, ⟨B, y1, gB⟩, gm⟩
    have hi1 : i < ls.length := by omega
    have hi2 : i < 8 := by omega
    have hMd : Ans ctx law02_Made.n [sV cU ls[i], .i .i64 5, .i .i64 10] (.ag (cL (madeS ls[i] 5 10))) := law02_Made.a ls[i] (hb _ (List.getElem_mem hi1)) 5 10 (by omega) (by omega)
    have hgd : ls.getD i [] = ls[i] := by simp [hi1]
    rw [arenaT, hgd]
    have hlen := arenaT_len ls i
    have ok : (madeS ls[i] 5 10).Ok := madeS_ok _ _ _ (by omega) (by omega)
    generalize madeS ls[i] 5 10 = u at *
    have hst := gB.stor
    simp +contextual (disch := omega) [Nat.add_assoc, Int.add_assoc, if_pos, if_neg, -Int.not_lt, -Int.not_le, -Nat.not_lt, -Nat.not_le, -List.length_flatMap, law04_Arena.b1, g0, g2, g3, g4, y0, y1, hi1, hi2, ansK hMd, hst.1, hst.2.1]
    rw [CallX_op (by rfl)]
    refine openg_w ref04_Put.f rfl (.inl rfl) ?_
    rw [hfo]
    refine ref04_Put.w _ (by omega) u ok (.inr (gB.up (Nat.zero_le _) (by omega) (fun j _ _ => rfl))) ?_
    intro B' n e' m2 x2 q1 q2 q3 q4
    have r0 : m2 x = some (.cells [.ns] false) := by rw [q3 _ (by omega), y0]
    have r1 : m2 (x + 1) = some (.cells [B] false) := by rw [q3 _ (by omega), y1]
    have hst2 := q4.stor
    simp +contextual (disch := omega) [Nat.add_assoc, Int.add_assoc, if_pos, if_neg, -Int.not_lt, -Int.not_le, -Nat.not_lt, -Nat.not_le, -List.length_flatMap, r0, r1, g0, g2, g3, g4, hst2.1, hst2.2.1]
    refine ⟨by omega, q4.up (by omega) (by omega) (fun j _ _ => Sto.sne _ _ _ _ (by omega)), fun j hj => by rw [q3 j (by omega), gm j hj]⟩
  · rintro e m' x' ⟨g0, g2, g3, g4, gx, y0, ⟨B, y1, gB⟩, gm⟩
    have hst := gB.stor
    by_cases h : ls.length ≤ 8
    · have e1 : M = ls.length := by omega
      rw [e1] at g4
      simp +contextual (disch := omega) [Nat.add_assoc, Int.add_assoc, if_pos, if_neg, -Int.not_lt, -Int.not_le, -Nat.not_lt, -Nat.not_le, -List.length_flatMap, law04_Arena.b1, g0, g2, g3, g4, y0, y1, hst.1, hst.2.1]
      exact hK _ _ _ (by omega) (fun j hj => by rw [Sto.sne _ _ _ _ (by omega), gm j hj]) (gB.up (by omega) (by omega) (fun j _ _ => Sto.sne _ _ _ _ (by omega)))
    · have e1 : M = 8 := by omega
      rw [e1] at g4
      simp +contextual (disch := omega) [Nat.add_assoc, Int.add_assoc, if_pos, if_neg, -Int.not_lt, -Int.not_le, -Nat.not_lt, -Nat.not_le, -List.length_flatMap, law04_Arena.b1, g0, g2, g3, g4, y0, y1, h, hst.1, hst.2.1]
      exact hK _ _ _ (by omega) (fun j hj => by rw [Sto.sne _ _ _ _ (by omega), gm j hj]) (gB.up (by omega) (by omega) (fun j _ _ => Sto.sne _ _ _ _ (by omega)))
theorem flat_set (x' : N) (r : Nat) (v : V) : ∀ (l : List N) (p : Nat) (hp : p < l.length), r < 4 → cN x' = (cN l[p]).set r v → (l.flatMap cN).set (p * 4 + r) v = (l.set p x').flatMap cN
  | [], p, hp, _, _ => by simp at hp
  | a :: t, 0, _, hr, h => by
    rw [List.flatMap_cons, List.set_cons_zero, List.flatMap_cons, Nat.zero_mul, Nat.zero_add, List.set_append_left _ _ (by rw [cN_len]; exact hr)]
    rw [h]
    rfl
  | a :: t, p + 1, hp, hr, h => by
    rw [List.flatMap_cons, List.set_cons_succ, List.flatMap_cons, List.set_append_right _ _ (by rw [cN_len]; omega), (by rw [cN_len]; omega : (p + 1) * 4 + r - (cN a).length = p * 4 + r)]
    rw [flat_set x' r v t p (by simpa using hp) hr (by simpa using h)]
theorem sto_N (l1 : List N) (i : Nat) (hi : i < l1.length) (x' : N) (r : Nat) (hr : r < 4) (v : V) (hv : v.cells = [v]) (hs : v.stor = true) (h : cN x' = (cN l1[i]).set r v) (a off : Nat) (ho : off = i * 4 + r) :
    stO (some (.cells (l1.flatMap cN) false)) 1 a off v = some (.un, [(a, some (.cells ((l1.set i x').flatMap cN) false))]) := by
  subst ho
  have hln : (l1.flatMap cN).length = l1.length * 4 := flat_ln (k := 4) l1
  have := flat_set x' r v l1 i hi hr h
  rw [stO_cells, if_pos ⟨by rw [hv]; rfl, by omega, hs⟩, hv, splice, ← this, List.set_eq_take_append_cons_drop, if_pos (by omega)]
  simp
theorem sl_N {l2 : List N} {k : Nat} (h : l2.length = k) : V.sl (List.take (k * 4) (l2.flatMap cN)) k = sV cN l2 := by
  subst h
  have hln : (l2.flatMap cN).length = l2.length * 4 := flat_ln (k := 4) l2
  rw [List.take_of_length_le (by omega)]
  rfl
set_option maxRecDepth 20000 in
set_option maxHeartbeats 4000000 in
theorem law04_ArenaSpoilt.a (ls : List (List Nat)) (hb : ∀ l ∈ ls, Byt l) (hl : ls.length ≤ 9223372036854775807) (at_ how : Nat) (ha : at_ < 256) (hh : how < 256) (n : Int) (hn : I64 n) :
    Ans ctx law04_ArenaSpoilt.n [sV cY ls, .i .u8 at_, .i .u8 how, .i .i64 n] (.b true) := by
  have hlen := arenaS_len ls
  refine ans law04_ArenaSpoilt.f ?_
  have hfo : ctx.frz law04_Arena.n = false := rfl
  simp +contextual (disch := omega) [Nat.add_assoc, Int.add_assoc, if_pos, if_neg, -Int.not_lt, -Int.not_le, -Nat.not_lt, -Nat.not_le, -List.length_flatMap, law04_ArenaSpoilt.c]
  rw [CallX_op (by rfl)]
  refine openg_w law04_Arena.f rfl (.inl rfl) ?_
  rw [hfo]
  refine law04_Arena.w ls hb hl ?_
  intro B m x hx hm hB
  have hst := hB.stor
  generalize arenaS ls = l at *
  simp +contextual (disch := omega) [Nat.add_assoc, Int.add_assoc, if_pos, if_neg, -Int.not_lt, -Int.not_le, -Nat.not_lt, -Nat.not_le, -List.length_flatMap, hst.1, hst.2.1, -apV_ns]
  refine hB.apy [⟨5, 4, 0, 0⟩] (fun j h => by have := hB.ref h; simp +contextual (disch := omega) [Nat.add_assoc, Int.add_assoc, if_pos, if_neg, -Int.not_lt, -Int.not_le, -Nat.not_lt, -Nat.not_le, -List.length_flatMap]) (by omega) rfl rfl (by simp) (by simp; omega) ?_
  intro ws m2 v1 v2 v3 v4
  have r0 : m2 x = some (.cells [B] false) := by rw [v3 x (fun h => by have := hB.ref h; omega) (by omega)]; simp +contextual (disch := omega) [Nat.add_assoc, Int.add_assoc, if_pos, if_neg, -Int.not_lt, -Int.not_le, -Nat.not_lt, -Nat.not_le, -List.length_flatMap]
  obtain ⟨l1, hl1⟩ : ∃ l1, l1 = l ++ [(⟨5, 4, 0, 0⟩ : N)] := ⟨_, rfl⟩
  obtain ⟨k, hk⟩ : ∃ k, k = l1.length := ⟨_, rfl⟩
  have hk1 : l.length + 1 = k := by rw [hk, hl1]; simp
  rw [← hl1] at v2
  obtain ⟨i, hi⟩ : ∃ i, i = at_ % k := ⟨_, rfl⟩
  have hik : i < k := by rw [hi]; exact Nat.mod_lt _ (by omega)
  have hil : i < l1.length := by omega
  have tm : ((at_ : Int).tmod k) = (i : Int) := by rw [Int.tmod_eq_emod_of_nonneg (by omega), hi]; omega
  have t6 : ((how : Int).tmod 6) = ((how % 6 : Nat) : Int) := by rw [Int.tmod_eq_emod_of_nonneg (by omega)]; omega
  have hh6 : how % 6 < 6 := by omega
  generalize how % 6 = h6 at *
  have hk0 : ((k : Int)) ≠ 0 := by omega
  rw [show l.length + [(⟨5, 4, 0, 0⟩ : N)].length = k from hk1]
  obtain ⟨P, hP⟩ : ∃ P, P = i * 4 := ⟨_, rfl⟩
  have hln : (l1.flatMap cN).length = k * 4 := by rw [flat_ln (k := 4), hk]
  have hP2 : P + 4 ≤ k * 4 := by omega
  have hge := flatN_get l1 i hil
  rw [← hP] at hge
  simp +contextual (disch := omega) [Nat.add_assoc, Int.add_assoc, if_pos, if_neg, -Int.not_lt, -Int.not_le, -Nat.not_lt, -Nat.not_le, -List.length_flatMap, v1, r0, tm, hk0, hik]
  have hT : ∀ l2 : List N, l2.length ≤ 1002 → ∀ j : Int, Ans ctx law04_told.n [.ag [sV cN l2], .ag (cL (.mk 1 0 [])), .i .i64 j] (.b true) := fun l2 h j => law04_told.b l2 (.mk 1 0 []) (.mk (by simp) (by omega) (by omega) (by simp)) j (by omega)
  have h6c : h6 = 0 ∨ h6 = 1 ∨ h6 = 2 ∨ h6 = 3 ∨ h6 = 4 ∨ h6 = 5 := by omega
  rcases h6c with h | h | h | h | h | h <;> (rw [h] at t6; clear h)
  · have t6 : ((how : Int).tmod 6) = 0 := t6
    have hsto := sto_N l1 i hil { l1[i] with kind := n } 0 (by omega) (.i .i64 n) rfl rfl rfl (x + 6) (i * 4) rfl
    have hl2 : (l1.set i { l1[i] with kind := n }).length = k := by rw [List.length_set, hk]
    have hT2 := hT (l1.set i { l1[i] with kind := n }) (by omega) i
    generalize l1.set i { l1[i] with kind := n } = l2 at *
    simp +contextual (disch := omega) [Nat.add_assoc, Int.add_assoc, if_pos, if_neg, -Int.not_lt, -Int.not_le, -Nat.not_lt, -Nat.not_le, -List.length_flatMap, t6]
    rw [v2, hsto]
    have hsl := sl_N hl2
    simp +contextual (disch := omega) [Nat.add_assoc, Int.add_assoc, if_pos, if_neg, -Int.not_lt, -Int.not_le, -Nat.not_lt, -Nat.not_le, -List.length_flatMap, ansK law04_awake.a, tm, hk0, hsl, ansK hT2]
  · have t6 : ((how : Int).tmod 6) = 1 := t6
    have hsto := sto_N l1 i hil { l1[i] with n := n } 1 (by omega) (.i .i64 n) rfl rfl rfl (x + 6) (i * 4 + 1) rfl
    have hl2 : (l1.set i { l1[i] with n := n }).length = k := by rw [List.length_set, hk]
    have hT2 := hT (l1.set i { l1[i] with n := n }) (by omega) i
    generalize l1.set i { l1[i] with n := n } = l2 at *
    simp +contextual (disch := omega) [Nat.add_assoc, Int.add_assoc, if_pos, if_neg, -Int.not_lt, -Int.not_le, -Nat.not_lt, -Nat.not_le, -List.length_flatMap, t6]
    rw [v2, hsto]
    have hsl := sl_N hl2
    simp +contextual (disch := omega) [Nat.add_assoc, Int.add_assoc, if_pos, if_neg, -Int.not_lt, -Int.not_le, -Nat.not_lt, -Nat.not_le, -List.length_flatMap, ansK law04_awake.a, tm, hk0, hsl, ansK hT2]
  · have t6 : ((how : Int).tmod 6) = 2 := t6
    have hsto := sto_N l1 i hil { l1[i] with a := n } 2 (by omega) (.i .i64 n) rfl rfl rfl (x + 6) (i * 4 + 2) rfl
    have hl2 : (l1.set i { l1[i] with a := n }).length = k := by rw [List.length_set, hk]
    have hT2 := hT (l1.set i { l1[i] with a := n }) (by omega) i
    generalize l1.set i { l1[i] with a := n } = l2 at *
    simp +contextual (disch := omega) [Nat.add_assoc, Int.add_assoc, if_pos, if_neg, -Int.not_lt, -Int.not_le, -Nat.not_lt, -Nat.not_le, -List.length_flatMap, t6]
    rw [v2, hsto]
    have hsl := sl_N hl2
    simp +contextual (disch := omega) [Nat.add_assoc, Int.add_assoc, if_pos, if_neg, -Int.not_lt, -Int.not_le, -Nat.not_lt, -Nat.not_le, -List.length_flatMap, ansK law04_awake.a, tm, hk0, hsl, ansK hT2]
  · have t6 : ((how : Int).tmod 6) = 3 := t6
    have hsto := sto_N l1 i hil { l1[i] with b := n } 3 (by omega) (.i .i64 n) rfl rfl rfl (x + 6) (i * 4 + 3) rfl
    have hl2 : (l1.set i { l1[i] with b := n }).length = k := by rw [List.length_set, hk]
    have hT2 := hT (l1.set i { l1[i] with b := n }) (by omega) i
    generalize l1.set i { l1[i] with b := n } = l2 at *
    simp +contextual (disch := omega) [Nat.add_assoc, Int.add_assoc, if_pos, if_neg, -Int.not_lt, -Int.not_le, -Nat.not_lt, -Nat.not_le, -List.length_flatMap, t6]
    rw [v2, hsto]
    have hsl := sl_N hl2
    simp +contextual (disch := omega) [Nat.add_assoc, Int.add_assoc, if_pos, if_neg, -Int.not_lt, -Int.not_le, -Nat.not_lt, -Nat.not_le, -List.length_flatMap, ansK law04_awake.a, tm, hk0, hsl, ansK hT2]
  · have t6 : ((how : Int).tmod 6) = 4 := t6
    obtain ⟨J, hJ⟩ : ∃ J, J = ((at_ : Int).tmod ((k : Int) + 1)) := ⟨_, rfl⟩
    have hk2 : ((k : Int)) + 1 ≠ 0 := by omega
    have hl2 : (l1 ++ [l1[i]]).length = k + 1 := by rw [List.length_append, ← hk]; rfl
    have hT2 := hT (l1 ++ [l1[i]]) (by omega) J
    have hsl := sl_N hl2
    have hce : List.take (k * 4) (l1.flatMap cN) ++ List.take 4 (List.take 4 (List.drop (i * 4) (l1.flatMap cN))) = (l1 ++ [l1[i]]).flatMap cN := by
      rw [← hP, hge, List.flatMap_append, List.take_of_length_le (by omega)]
      simp
    generalize l1 ++ [l1[i]] = l3 at *
    simp +contextual (disch := omega) [Nat.add_assoc, Int.add_assoc, if_pos, if_neg, -Int.not_lt, -Int.not_le, -Nat.not_lt, -Nat.not_le, -List.length_flatMap, t6, hik, hln, hP2, v2, tm, hk0, -List.flatMap_append, hce, ansK law04_awake.a, hk2, hJ.symm, hsl, ansK hT2]
  · have t6 : ((how : Int).tmod 6) = 5 := t6
    obtain ⟨q, hq⟩ : ∃ q, bin Go.BinOp.and (V.i .i64 n) (V.i .i64 7) = some (.i .i64 q) := ⟨_, rfl⟩
    have hsto := sto_N l1 i hil { l1[i] with kind := q } 0 (by omega) (.i .i64 q) rfl rfl rfl (x + 6) (i * 4) rfl
    have hla : (l1.set i { l1[i] with kind := q }).length = k := by rw [List.length_set, hk]
    generalize l1.set i { l1[i] with kind := q } = la at *
    have hil2 : i < la.length := by omega
    have hsto2 := sto_N la i hil2 { la[i] with n := 0 } 1 (by omega) (.i .i64 0) rfl rfl rfl (x + 6) (i * 4 + 1) rfl
    have hl2 : (la.set i { la[i] with n := 0 }).length = k := by rw [List.length_set, hla]
    have hT2 := hT (la.set i { la[i] with n := 0 }) (by omega) i
    generalize la.set i { la[i] with n := 0 } = l2 at *
    have hsl := sl_N hl2
    simp +contextual (disch := omega) [Nat.add_assoc, Int.add_assoc, if_pos, if_neg, -Int.not_lt, -Int.not_le, -Nat.not_lt, -Nat.not_le, -List.length_flatMap, t6, hq, -stO_cells]
    rw [v2, hsto]
    simp +contextual (disch := omega) [Nat.add_assoc, Int.add_assoc, if_pos, if_neg, -Int.not_lt, -Int.not_le, -Nat.not_lt, -Nat.not_le, -List.length_flatMap, -stO_cells]
    rw [hsto2]
    simp +contextual (disch := omega) [Nat.add_assoc, Int.add_assoc, if_pos, if_neg, -Int.not_lt, -Int.not_le, -Nat.not_lt, -Nat.not_le, -List.length_flatMap, ansK law04_awake.a, tm, hk0, hsl, ansK hT2]
end Pi
