/- Contracts: stores (layer 11): a store in memory of its own. -/
import Derived.Test.YtfdkpnckflmcaaaC11a
import Derived.Test.YtfdkpnckflmcaaaCRl
set_option linter.unusedSimpArgs false
set_option linter.unusedVariables false
namespace Pi
set_option maxHeartbeats 1000000 in
theorem store_own.w {m : Sto} {x : Nat} {K : CR → Sto → Nat → Prop} {A : Nat → Prop} {V1 V2 : V} {s : St} {fs : List V} (hc : Rc A m V1 s.cl fs) (hm : Rl A m cI 1 V2 s.md) (hA : ∀ j, A j → j < x)
    (z1 : s.cl.length ≤ 1000) (z2 : s.md.length ≤ 1000) (z3 : ∀ c ∈ s.cl, c.frm.length ≤ 1000)
    (hK : ∀ B1 B2 gs m' x', x ≤ x' → (∀ j, j < x → m' j = m j) → Xc m' B1 s.cl gs x x' → Bf m' B2 cI 1 s.md x x' → (Own m x → (∀ F ∈ fs, F.over x = true) → V1.over x = true → V2.over x = true → Own m' x ∧ B1.over x = true ∧ B2.over x = true) → K (.ret (.ag [.i .i64 s.vars, B1, B2])) m' x') :
    w ctx (envOf [.ag [.i .i64 s.vars, V1, V2]]) m x [] none none (RetG ctx store_own.c.rs K) store_own.c.code := by
  have s1 := hm.sl ((m.set x (some (.cells [.i .i64 s.vars, V1, V2] false))).set (x + 1) (some (.cells [.i .i64 0, .ns, .ns] false))) (.eq fun j hj => by have := hA j hj; rw [Sto.sne _ _ _ _ (by omega), Sto.sne _ _ _ _ (by omega)])
  simp +contextual (disch := omega) [Nat.add_assoc, Int.add_assoc, if_pos, if_neg, -Int.not_lt, -Int.not_le, -Nat.not_lt, -Nat.not_le, -List.length_flatMap, store_own.c, hc.len, hm.len, s1, -apV_ns]
  refine Bf.new s.md rfl rfl (by omega) ?_
  intro B2 ws m2 p1 pw p2 p3 pb
  have q0 : m2 x = some (.cells [.i .i64 s.vars, V1, V2] false) := by rw [p3 x (by omega)]; simp +contextual (disch := omega) [Nat.add_assoc, Int.add_assoc, if_pos, if_neg, -Int.not_lt, -Int.not_le, -Nat.not_lt, -Nat.not_le, -List.length_flatMap]
  have q1 : m2 (x + 1) = some (.cells [.i .i64 0, .ns, .ns] false) := by rw [p3 (x + 1) (by omega)]; simp +contextual (disch := omega) [Nat.add_assoc, Int.add_assoc, if_pos, if_neg, -Int.not_lt, -Int.not_le, -Nat.not_lt, -Nat.not_le, -List.length_flatMap]
  have qA : ∀ j, j < x → m2 j = m j := fun j hj => by rw [p3 j (by omega)]; simp +contextual (disch := omega) [Nat.add_assoc, Int.add_assoc, if_pos, if_neg, -Int.not_lt, -Int.not_le, -Nat.not_lt, -Nat.not_le, -List.length_flatMap]
  have s2 := hc.sl m2 (.eq fun j hj => qA j (hA j hj))
  have pw' : ∀ (a : Nat) (b : Option PObj), (a, b) ∈ ws → ¬ a = x := fun a b h => by have := (pw a b h).1; omega
  simp +contextual (disch := omega) [Nat.add_assoc, Int.add_assoc, if_pos, if_neg, -Int.not_lt, -Int.not_le, -Nat.not_lt, -Nat.not_le, -List.length_flatMap, p1, q0, s2, hc.len, p2.stor, p2.cells, -apV_ns]
  refine Yc.new s.cl fs hc.fr.len rfl rfl (by omega) ?_
  intro B1 ws' m3 t1 tw t2 t3
  rw [IfK_pos pw']
  have u0 : m3 x = some (.cells [.i .i64 s.vars, V1, V2] false) := by rw [t3 x (by omega), q0]
  have u1 : m3 (x + 1) = some (.cells [.i .i64 0, .ns, .ns] false) := by rw [t3 (x + 1) (by omega), q1]
  simp +contextual (disch := omega) [Nat.add_assoc, Int.add_assoc, if_pos, if_neg, -Int.not_lt, -Int.not_le, -Nat.not_lt, -Nat.not_le, -List.length_flatMap, t1, u0, t2.stor, t2.cells, t2.len, p2.stor, p2.cells]
  have hfl := hc.fr.len
  refine for_w (fun i e m' x' => ∃ gs, e 1 = .p x 0 ∧ e 2 = .p (x + 1) 0 ∧ e 14 = B1 ∧ e 15 = .i .i64 s.cl.length ∧ e 16 = .i .i64 i ∧ x + 16 ≤ x' ∧ m' x = some (.cells [.i .i64 s.vars, B1, B2] false) ∧ m' (x + 1) = some (.cells [.i .i64 0, .ns, .ns] false) ∧
    (∀ j, j < x → m' j = m j) ∧ Bf m' B2 cI 1 s.md (x + 2) (x + 6) ∧ Yc m' B1 s.cl (gs ++ fs.drop i) (x + 7) ∧ gs.length = i ∧ Fr (fun j => x + 8 ≤ j ∧ j < x') m' gs (s.cl.take i) ∧
    (Own m x → (∀ F ∈ fs, F.over x = true) → V1.over x = true → V2.over x = true → Own m' x ∧ ∀ F ∈ gs, F.over x = true)) s.cl.length ?_ ?_ ?_
  · refine ⟨[], ?_⟩
    have hm3 : ∀ j, j < x → m3 j = m j := fun j hj => by rw [t3 j (by omega)]; exact qA j hj
    have hB2 : ∀ y, y ≤ x → B2.over y = true := by
      intro y hy
      rcases pb with rfl | rfl
      · rfl
      · simp [V.over]; omega
    simp +contextual (disch := omega) [Nat.add_assoc, Int.add_assoc, if_pos, if_neg, -Int.not_lt, -Int.not_le, -Nat.not_lt, -Nat.not_le, -List.length_flatMap]
    refine ⟨u1, hm3, ?_, ?_, trivial, fun o1 o2 o3 o4 => ?_⟩
    · have h4 := p2.up (m' := m3) (Nat.le_refl _) (fun j h1 h2 => t3 j (by omega))
      exact (h4.up (x' := x + 6) (by omega) (fun j h1 h2 => by simp +contextual (disch := omega) [Nat.add_assoc, Int.add_assoc, if_pos, if_neg, -Int.not_lt, -Int.not_le, -Nat.not_lt, -Nat.not_le, -List.length_flatMap])).low (by omega)
    · rcases t2 with h | ⟨h1, h2⟩
      · exact .inl h
      · exact .inr ⟨h1, by simp +contextual (disch := omega) [Nat.add_assoc, Int.add_assoc, if_pos, if_neg, -Int.not_lt, -Int.not_le, -Nat.not_lt, -Nat.not_le, -List.length_flatMap, h2]⟩
    · have w1 : Own m2 x := by
        rw [← p1]
        refine Own.app (Own.set (Own.set o1 (by simp [ownO, overL, V.over, o3, o4])) (by simp [ownO, overL, V.over])) (fun a b h => ?_)
        rw [(pw a b h).2]
        exact over_cI x s.md
      have w2 : Own m3 x := by
        rw [← t1]
        refine Own.app w1 (fun a b h => ?_)
        rw [(tw a b h).2]
        exact over_trips o2
      refine Own.set (Own.set w2 ?_) ?_
      · simp [ownO, overL, V.over, o3, hB2 x (Nat.le_refl _)]
      · simp [ownO, overL, V.over, t2.over (x := x) (by omega), hB2 x (Nat.le_refl _)]
  · rintro i e m' x' hi ⟨gs, g1, g2, g14, g15, g16, hx', y0, y1, yA, yB, yC, hgl, hF, hO⟩
    obtain ⟨F, hF1, hF2⟩ := hc.fr.at hi
    have hfi : i < fs.length := by omega
    have hdr : fs.drop i = F :: fs.drop (i + 1) := by
      rw [List.drop_eq_getElem_cons hfi]
      congr 1
      rw [List.getElem?_eq_getElem hfi] at hF1
      simpa using hF1
    have hlen : (gs ++ fs.drop i).length = s.cl.length := by simp; omega
    rcases yC with ⟨_, h, _⟩ | ⟨hB1, yC⟩
    · rw [h] at hi; simp at hi
    · have hcut : ((trips (gs ++ fs.drop i) s.cl).drop (i * 3)).take 3 = trip F s.cl[i] := by
        rw [trips_drop hlen, List.drop_left' hgl, hdr, List.drop_eq_getElem_cons hi]
        rfl
      have htl := trips_len hlen
      have hfrl := z3 _ (List.getElem_mem hi)
      have q1 := hF2.sl ((m'.set (x' + 4) (some (.cells [.ns, .i .i64 0, .i .i64 0] false))).set (x' + 4) (some (.cells [F, .i .i64 s.cl[i].to.var, .i .i64 s.cl[i].to.off] false)))
        (.eq fun j hj => by have := hA j hj; rw [Sto.sne _ _ _ _ (by omega), Sto.sne _ _ _ _ (by omega), yA j this])
      simp +contextual (disch := omega) [Nat.add_assoc, Int.add_assoc, if_pos, if_neg, -Int.not_lt, -Int.not_le, -Nat.not_lt, -Nat.not_le, -List.length_flatMap, store_own.b1, g1, g2, g14, g15, g16, hi, y0, y1, hB1, yC, hcut, htl, trip, q1, hF2.len, -apV_ns]
      refine Bf.new s.cl[i].frm rfl rfl (by omega) ?_
      intro F' wsF m4 v1 vw v2 v3 vb
      rw [IfK_pos (fun a b h => by have := (vw a b h).1; omega)]
      have v7 : m4 (x + 7) = some (.cells (trips (gs ++ fs.drop i) s.cl) false) := by rw [v3 _ (by omega)]; simp +contextual (disch := omega) [Nat.add_assoc, Int.add_assoc, if_pos, if_neg, -Int.not_lt, -Int.not_le, -Nat.not_lt, -Nat.not_le, -List.length_flatMap, yC]
      have hset : (trips (gs ++ fs.drop i) s.cl).take (i * 3) ++ F' :: (trips (gs ++ fs.drop i) s.cl).drop (i * 3 + 1) = trips ((gs ++ [F']) ++ fs.drop (i + 1)) s.cl := by
        have h1 := trips_set (F := F') hlen hi
        rw [List.set_eq_take_append_cons_drop, if_pos (by omega)] at h1
        rw [h1]
        congr 1
        rw [List.set_append_right _ _ (by omega), hdr, hgl, Nat.sub_self, List.set_cons_zero, List.append_assoc]
        rfl
      have v0 : m4 x = some (.cells [.i .i64 s.vars, .ms (x + 7) 0 s.cl.length 3, B2] false) := by rw [v3 _ (by omega), ← hB1]; simp +contextual (disch := omega) [Nat.add_assoc, Int.add_assoc, if_pos, if_neg, -Int.not_lt, -Int.not_le, -Nat.not_lt, -Nat.not_le, -List.length_flatMap, y0]
      have v6 : m4 (x + 1) = some (.cells [.i .i64 0, .ns, .ns] false) := by rw [v3 _ (by omega)]; simp +contextual (disch := omega) [Nat.add_assoc, Int.add_assoc, if_pos, if_neg, -Int.not_lt, -Int.not_le, -Nat.not_lt, -Nat.not_le, -List.length_flatMap, y1]
      have vA : ∀ j, j < x → m4 j = m j := fun j hj => by rw [v3 j (by omega)]; simp +contextual (disch := omega) [Nat.add_assoc, Int.add_assoc, if_pos, if_neg, -Int.not_lt, -Int.not_le, -Nat.not_lt, -Nat.not_le, -List.length_flatMap, yA]
      have vold : ∀ j, x + 2 ≤ j → j < x' → m4 j = m' j := fun j h1 h2 => by rw [v3 j (by omega)]; simp +contextual (disch := omega) [Nat.add_assoc, Int.add_assoc, if_pos, if_neg, -Int.not_lt, -Int.not_le, -Nat.not_lt, -Nat.not_le, -List.length_flatMap]
      simp +contextual (disch := omega) [Nat.add_assoc, Int.add_assoc, if_pos, if_neg, -Int.not_lt, -Int.not_le, -Nat.not_lt, -Nat.not_le, -List.length_flatMap, v1, v7, v2.stor, v2.cells, htl, g1, g2, g14, g15, g16, hB1, hset, v0, v6]
      have hFo : F'.over x = true := by
        rcases vb with rfl | rfl
        · rfl
        · simp [V.over]; omega
      have htk : s.cl.take (i + 1) = s.cl.take i ++ [s.cl[i]] := List.take_succ_eq_append_getElem hi
      refine ⟨by omega, vA, ?_, gs ++ [F'], ?_, by simp; omega, ?_, fun o1 o2 o3 o4 => ?_⟩
      · exact yB.up (Nat.le_refl _) (fun j h1 h2 => by rw [Sto.sne _ _ _ _ (by omega)]; exact vold j h1 (by omega))
      · refine .inr ⟨rfl, ?_⟩
        rw [Sto.seq, List.append_assoc]; rfl
      · rw [htk]
        refine Fr.app (hF.up (.eq fun j hj => ?_) (fun j hj => ⟨hj.1, by omega⟩)) ⟨?_, trivial⟩
        · rw [Sto.sne _ _ _ _ (by omega)]; exact vold j (by omega) hj.2
        · exact ((Rl.Bf v2).up (.eq fun j hj => by rw [Sto.sne _ _ _ _ (by omega)])).mono (fun j hj => ⟨by omega, by omega⟩)
      · obtain ⟨w1, w2⟩ := hO o1 o2 o3 o4
        have hFF : F.over x = true := o2 F (List.mem_of_getElem? hF1)
        have w3 : Own m4 x := by
          rw [← v1]
          refine Own.app (Own.set (Own.set w1 (by simp [ownO, overL, V.over])) (by simp [ownO, overL, V.over, hFF])) (fun a b h => ?_)
          rw [(vw a b h).2]
          exact over_cA x _
        have w4 : ∀ G ∈ gs ++ [F'], G.over x = true := by
          intro G hG
          rcases List.mem_append.1 hG with hG | hG
          · exact w2 G hG
          · rw [List.mem_singleton.1 hG]; exact hFo
        refine ⟨Own.set w3 (over_trips fun G hG => ?_), w4⟩
        rcases List.mem_append.1 hG with hG | hG
        · exact w2 G hG
        · rcases List.mem_cons.1 hG with rfl | hG
          · exact hFo
          · exact o2 G (List.mem_of_mem_drop hG)
  · rintro e m' x' ⟨gs, g1, g2, g14, g15, g16, hx', y0, y1, yA, yB, yC, hgl, hF, hO⟩
    simp +contextual (disch := omega) [Nat.add_assoc, Int.add_assoc, if_pos, if_neg, -Int.not_lt, -Int.not_le, -Nat.not_lt, -Nat.not_le, -List.length_flatMap, store_own.b1, g1, g2, g14, g15, g16, y0, y1]
    have hnil : fs.drop s.cl.length = [] := List.drop_of_length_le (by omega)
    rw [hnil, List.append_nil] at yC
    rw [List.take_length] at hF
    refine hK B1 B2 gs _ _ (by omega) (fun j hj => by simp +contextual (disch := omega) [Nat.add_assoc, Int.add_assoc, if_pos, if_neg, -Int.not_lt, -Int.not_le, -Nat.not_lt, -Nat.not_le, -List.length_flatMap, yA]) ?_ ?_ (fun o1 o2 o3 o4 => ?_)
    · have yC' : Yc (m'.set (x + 1) (some (.cells [.i .i64 s.vars, B1, B2] false))) B1 s.cl gs (x + 7) := by
        rcases yC with h | ⟨h1, h2⟩
        · exact .inl h
        · exact .inr ⟨h1, by simp +contextual (disch := omega) [Nat.add_assoc, Int.add_assoc, if_pos, if_neg, -Int.not_lt, -Int.not_le, -Nat.not_lt, -Nat.not_le, -List.length_flatMap, h2]⟩
      exact yC'.xc (by omega) (by omega) (hF.up (.eq fun j hj => by simp +contextual (disch := omega) [Nat.add_assoc, Int.add_assoc, if_pos, if_neg, -Int.not_lt, -Int.not_le, -Nat.not_lt, -Nat.not_le, -List.length_flatMap]) (fun j hj => ⟨by omega, by omega, by omega⟩))
    · exact (yB.up (x' := x' + 4) (by omega) (fun j h1 h2 => by simp +contextual (disch := omega) [Nat.add_assoc, Int.add_assoc, if_pos, if_neg, -Int.not_lt, -Int.not_le, -Nat.not_lt, -Nat.not_le, -List.length_flatMap])).low (by omega)
    · obtain ⟨w1, w2⟩ := hO o1 o2 o3 o4
      have hB2 : B2.over x = true := by
        rcases pb with rfl | rfl
        · rfl
        · simp [V.over]
      have hB1 : B1.over x = true := yC.over (by omega)
      exact ⟨Own.set w1 (by simp [ownO, overL, V.over, hB1, hB2]), hB1, hB2⟩
end Pi
