/- Laws of layer 11: what is told, where the document's store lies in memory; stores by numbers in memory. -/
import Derived.Test.YtfdkpnckflmcaaaC11p
import Derived.Test.YtfdkpnckflmcaaaC11j
set_option linter.unusedSimpArgs false
set_option linter.unusedVariables false
namespace Pi
theorem addT_few (s : St) (l : List C) (hs : s.Few) : (addT s l).Few ∧ (addW s l).length ≤ 60 := by
  obtain ⟨t, a, b, h, h2, h3⟩ := addV_tu s l hs
  unfold addT addW
  unfold addV at h
  split
  · exact ⟨hs, by simp⟩
  · rename_i h1
    split
    · exact ⟨hs, by simp⟩
    · split
      · exact ⟨hs, by simp⟩
      · rename_i h2 h3
        have c1 : rightS s = true := by simpa using h1
        have hRc : rightC s.vars s.cl = true := by
          unfold rightS at c1
          simp only [Bool.and_eq_true] at c1
          exact c1.1.1
        have hRa := right_app hRc (by simpa using h3) (by omega)
        obtain ⟨r1, r2, r3, r4⟩ := right_ok hRa
        split
        · exact ⟨hs, by rw [intL_len]; exact Nat.le_trans (coreL_len _ _) r3⟩
        · refine ⟨⟨⟨by simp only; omega, fun c hc => Nat.le_trans (okC_six (r4 c hc)) (by omega)⟩, ?_, ?_, fun c hc => Nat.le_trans (okC_six (r4 c hc)) (by omega)⟩, by simp⟩
          · simp only; omega
          · have := solveC_len s.vars _ hRa
            simp only; omega
set_option maxRecDepth 20000 in
set_option maxHeartbeats 1000000 in
theorem law11_told.b (s : St) (l : List C) (a : A) (b : List A) (hs : s.Few) (hl : l.length ≤ 1000000) (hf : ∀ c ∈ l, c.frm.length ≤ 9223372036854775807) (hb : b.length ≤ 1000000) : Ans ctx law11_told.n [.ag (cS s), sV cC l, .ag (cA a), sV cA b] (.b true) := by
  obtain ⟨vs, hvs⟩ : ∃ vs, vs = [V.ag (cS s), sV cC l, V.ag (cA a), sV cA b] := ⟨_, rfl⟩
  rw [← hvs]
  refine ans law11_told.f ?_
  obtain ⟨is, k, e2⟩ := followsV_tu s a b
  have h1 := store_Add.a s l hs hl hf
  have h3 := store_Follows.a s a b hs hb
  have h4 := ref11_Follows.a s a b hs hb
  rw [addV_eq] at h1
  rw [e2] at h3 h4
  obtain ⟨ht, hd⟩ := addT_few s l hs
  have hSm := ht.same
  have hIn := ref08_Ints.a (addW s l) (addW s l) (by omega)
  simp +contextual (disch := omega) [Nat.add_assoc, Int.add_assoc, if_pos, if_neg, -Int.not_lt, -Int.not_le, -Nat.not_lt, -Nat.not_le, -List.length_flatMap, hvs, law11_told.c, ansK h1]
  rw [CallX_op (by rfl)]
  refine openg_w rfl rfl (.inl rfl) ?_
  have hfo : ctx.frz ref11_Add.n = false := rfl
  rw [hfo]
  refine ref11_Add.w (s := s) (A := fun _ => False) (V1 := sV cC s.cl) (V2 := sV cI s.md) l (.inl ⟨rfl, rfl⟩) (Rc.sV _ _ s.cl) (Rl.sV _ _ s.md) (fun j h => h.elim) (by simp) hs hl hf ?_
  intro B1 B2 W gs m5 x5 hx5 hm5 hX5 hB5 _ hW
  have e0 : m5 0 = some (.cells (cS s) false) := by rw [hm5 0 (by omega)]; simp +contextual (disch := omega) [Nat.add_assoc, Int.add_assoc, if_pos, if_neg, -Int.not_lt, -Int.not_le, -Nat.not_lt, -Nat.not_le, -List.length_flatMap]
  have e1 : m5 1 = some (.cells (cA a) false) := by rw [hm5 1 (by omega)]; simp +contextual (disch := omega) [Nat.add_assoc, Int.add_assoc, if_pos, if_neg, -Int.not_lt, -Int.not_le, -Nat.not_lt, -Nat.not_le, -List.length_flatMap]
  have e9 : m5 9 = some (.cells (cS (addT s l)) false) := by rw [hm5 9 (by omega)]; simp +contextual (disch := omega) [Nat.add_assoc, Int.add_assoc, if_pos, if_neg, -Int.not_lt, -Int.not_le, -Nat.not_lt, -Nat.not_le, -List.length_flatMap]
  have hWs : W.stor = true ∧ W.cells = [W] := by rcases hW with ⟨rfl, _⟩ | rfl <;> exact ⟨rfl, rfl⟩
  simp +contextual (disch := omega) [Nat.add_assoc, Int.add_assoc, if_pos, if_neg, -Int.not_lt, -Int.not_le, -Nat.not_lt, -Nat.not_le, -List.length_flatMap, e0, e1, e9, hWs.1, hWs.2, ansK h3, ansK h4, ansK (store_Right.a s hs.1), ansK (ref11_Right.a s hs.1)]
  generalize hM : Sto.set (Sto.set m5 (x5 + 4) _) (x5 + 4) _ = M
  have hMj : ∀ j, j < x5 → M j = m5 j := fun j hj => by rw [← hM, Sto.sne _ _ _ _ (by omega), Sto.sne _ _ _ _ (by omega)]
  obtain ⟨i8, f8, _⟩ := (hX5.up (m' := M) (Nat.le_refl _) (Nat.le_refl _) (fun j h1 h2 => hMj j h2)).rc.fz24
  have f9 := (hB5.up (m' := M) (Nat.le_refl _) (fun j h1 h2 => hMj j h2)).fz24
  have fW : ∃ ids, frzW (der M 24) W = some (sV cI (addW s l), ids) := by
    rcases hW with ⟨rfl, h⟩ | rfl
    · rw [h]; exact ⟨_, frzW_ns _⟩
    · exact ⟨[], by simp [sV]⟩
  obtain ⟨i7, f7⟩ := fW
  have hSm' : Ans ctx ref11_Same.n [.ag (cS (addT s l)), .ag [.i .i64 (addT s l).vars, sV cC (addT s l).cl, sV cI (addT s l).md]] (.b true) := hSm
  simp +contextual (disch := omega) [Nat.add_assoc, Int.add_assoc, if_pos, if_neg, -Int.not_lt, -Int.not_le, -Nat.not_lt, -Nat.not_le, -List.length_flatMap, f8, f9, f7, ansK hSm', ansK hIn]
theorem Gd.addT {v k : Nat} {s : St} (h : Gd v k s) {l : List C} (hl : rightC v l = true) (hk : k + l.length ≤ 60) : addT s l = addS s l := by
  have hlen := h.len
  unfold Pi.addT addS
  rw [h.right, if_neg (by simp), if_neg (by omega), h.vars, hl, if_neg (by simp), Int.toNat_natCast]
  cases hs : (solveC v (s.cl ++ l)).2.1 <;> simp
theorem Bf.ref {α : Type} {f : α → List V} {k : Nat} {m : Sto} {B : V} {l : List α} {lo x : Nat} (h : Bf m B f k l lo x) : ∀ j ∈ refOf B, j < x := by
  rcases h with ⟨rfl, rfl⟩ | ⟨a, cs, rfl, h2, hR, h3, h4⟩
  · intro j hj; cases hj
  · intro j hj; rw [List.mem_singleton.1 hj]; exact h4
theorem Xc.ic {m : Sto} {B : V} {cl : List C} {fs : List V} {lo x : Nat} (h : Xc m B cl fs lo x) : Ic m B cl fs x := by
  rcases h with ⟨h1, h2, h3⟩ | ⟨a, h1, h2, h3, h4, h5⟩
  · exact .inr (.inl ⟨h1, h2, h3⟩)
  · exact .inr (.inr ⟨a, false, h1, h2, h4⟩)
set_option maxHeartbeats 1000000 in
theorem law11_Made.w {m0 : Sto} {x0 : Nat} {K : CR → Sto → Nat → Prop} (n : Nat) (hn : n < 256) (l : List Nat) (hb : Byt l) (hl : l.length ≤ 9223372036854775807)
    (hK : ∀ B1 B2 gs m' x', x0 ≤ x' → (∀ j, j < x0 → m' j = m0 j) → Xc m' B1 (madeSt n l).cl gs x0 x' → Bf m' B2 cI 1 (madeSt n l).md x0 x' → Sep m' B1 B2 (madeSt n l).cl gs x' → K (.ret (.ag [.i .i64 (madeSt n l).vars, B1, B2])) m' x') :
    w ctx (envOf [.i .u8 n, sV cU l]) m0 x0 [] none none (RetG ctx law11_Made.c.rs K) law11_Made.c.code := by
  have hv := varsB_bd n
  have hml := made_len n l
  have hgd := madeSt_gd n l
  have hst := madeSt_step n l
  have hok : ∀ c ∈ madeC n l, okC (varsB n) c = true := made_ok n l
  have hM : madeSt n l = (((madeC n l).take 15).take ((madeC n l).take 15).length).foldl (fun s c => addS s [c]) (emptyS (varsB n)) := by rw [List.take_length]; rfl
  have htl : ((madeC n l).take 15).length = min (madeC n l).length 15 := by rw [List.length_take]; omega
  rw [htl] at hM
  rw [hM] at hK
  simp +contextual (disch := omega) [Nat.add_assoc, Int.add_assoc, if_pos, if_neg, -Int.not_lt, -Int.not_le, -Nat.not_lt, -Nat.not_le, -List.length_flatMap, law11_Made.c, ansK (law08_Vars.a n hn)]
  rw [CallX_op (by rfl)]
  refine openg_w rfl rfl (.inl rfl) ?_
  have hfo : ctx.frz ref11_New.n = false := rfl
  have hfa : ctx.frz ref11_Add.n = false := rfl
  rw [hfo]
  refine ref11_New.w (varsB n) hv.1 (by omega) ?_
  intro B m1 x1 hx1 hm1 hB
  have e0 : m1 x0 = some (.cells [.i .i64 0, .ns, .ns] false) := by rw [hm1 x0 (by omega)]; simp +contextual (disch := omega) [Nat.add_assoc, Int.add_assoc, if_pos, if_neg, -Int.not_lt, -Int.not_le, -Nat.not_lt, -Nat.not_le, -List.length_flatMap]
  simp +contextual (disch := omega) [Nat.add_assoc, Int.add_assoc, if_pos, if_neg, -Int.not_lt, -Int.not_le, -Nat.not_lt, -Nat.not_le, -List.length_flatMap, e0, ansK (law08_Made.a n hn l hb hl)]
  clear hM
  generalize madeC n l = M at *
  obtain ⟨F, hF⟩ : ∃ F : Nat → St, ∀ i, F i = ((M.take 15).take i).foldl (fun s c => addS s [c]) (emptyS (varsB n)) := ⟨_, fun _ => rfl⟩
  simp only [← hF] at hgd hst hK ⊢
  have hF0 : F 0 = emptyS (varsB n) := by rw [hF]; rfl
  obtain ⟨y, hy⟩ : ∃ y, y = x1 + 3 := ⟨_, rfl⟩
  rw [← hy]
  refine for_w (fun i e m x => e 4 = .p x0 0 ∧ e 5 = .p y 0 ∧ e 7 = sV cC M ∧ e 8 = .i .i64 i ∧ y < x ∧ m x0 = some (.cells [.i .i64 0, .ns, .ns] false) ∧ (∀ j, j < x0 → m j = m0 j) ∧
    ∃ B1 B2 gs lo hi, m y = some (.cells [.i .i64 (F i).vars, B1, B2] false) ∧ x0 + 1 ≤ lo ∧ hi ≤ x ∧ (hi ≤ y ∨ y < lo) ∧ Xc m B1 (F i).cl gs lo hi ∧ Bf m B2 cI 1 (F i).md lo hi ∧ Sep m B1 B2 (F i).cl gs hi) (min M.length 15) ?_ ?_ ?_
  · have hmj : ∀ j, j < x0 → m1 j = m0 j := fun j hj => by rw [hm1 j (by omega)]; simp +contextual (disch := omega) [Nat.add_assoc, Int.add_assoc, if_pos, if_neg, -Int.not_lt, -Int.not_le, -Nat.not_lt, -Nat.not_le, -List.length_flatMap]
    simp +contextual (disch := omega) [Nat.add_assoc, Int.add_assoc, if_pos, if_neg, -Int.not_lt, -Int.not_le, -Nat.not_lt, -Nat.not_le, -List.length_flatMap, hF0, e0]
    refine ⟨by omega, hmj, .ns, B, ⟨rfl, rfl, rfl⟩, [], _, ?_, x1, by omega, .inl (by omega), .inl ⟨rfl, rfl, rfl⟩, hB.up (Nat.le_refl _) (fun j h1 h2 => by rw [Sto.sne _ _ _ _ (by omega), Sto.sne _ _ _ _ (by omega)]), fun _ _ _ => .inl ⟨rfl, rfl, rfl⟩⟩
    omega
  · rintro i e m x hi ⟨g4, g5, g7, g8, hx, y0, yj, B1, B2, gs, lo, hj, y5, l1, l2, l3, hX, hB, hS⟩
    have h1 : i < M.length := by omega
    have h2 : i < 15 := by omega
    have hcut : (M.drop i).take 1 = [M[i]] := by rw [List.drop_eq_getElem_cons h1]; rfl
    have hg := hgd i (by omega)
    have hs := hst i (by omega)
    rw [List.getElem_take, ← hg.addT (one_right (by omega) (by omega) (hok _ (List.getElem_mem h1))) (by simp; omega)] at hs
    simp +contextual (disch := omega) [Nat.add_assoc, Int.add_assoc, if_pos, if_neg, -Int.not_lt, -Int.not_le, -Nat.not_lt, -Nat.not_le, -List.length_flatMap, law11_Made.b1, g4, g5, g7, g8, y0, y5, h1, h2, hcut]
    rw [CallX_op (by rfl)]
    refine openg_w rfl rfl (.inl rfl) ?_
    rw [hfa]
    refine ref11_Add.w (s := F i) (A := fun j => lo ≤ j ∧ j < hj) (V1 := B1) (V2 := B2) [M[i]] (hX.ic.up (fun _ _ => rfl) (by omega)) hX.rc (Rl.Bf hB) (fun j h => by omega) (fun j h => by have := hB.ref j h; omega) hg.few (by simp) (fun c hc => by rw [List.mem_singleton.1 hc]; exact Nat.le_trans (okC_six (hok _ (List.getElem_mem h1))) (by omega)) ?_
    intro E1 E2 W gs' m5 x5 hx5 hm5 hX5 hB5 hS5 hW
    rw [← hs] at hX5 hB5 hS5 ⊢
    have z0 := (hm5 x0 (by omega)).trans y0
    have z5 := (hm5 y (by omega)).trans y5
    simp +contextual (disch := omega) [Nat.add_assoc, Int.add_assoc, if_pos, if_neg, -Int.not_lt, -Int.not_le, -Nat.not_lt, -Nat.not_le, -List.length_flatMap, z0, z5, g4, g5, g7, g8]
    refine ⟨by omega, fun j hj => by rw [hm5 j (by omega), yj j hj], E1, E2, ⟨rfl, rfl⟩, gs', _, ?_, x5, by omega, ?_, hX5.up (Nat.le_refl _) (Nat.le_refl _) (fun j h1 h2 => by rw [Sto.sne _ _ _ _ (by omega)]), hB5.up (Nat.le_refl _) (fun j h1 h2 => by rw [Sto.sne _ _ _ _ (by omega)]), hS5.up hB5 (Nat.le_refl _) (fun j h1 h2 => by rw [Sto.sne _ _ _ _ (by omega)])⟩
    · omega
    · omega
  · rintro e m x ⟨g4, g5, g7, g8, hx, y0, yj, B1, B2, gs, lo, hj, y5, l1, l2, l3, hX, hB, hS⟩
    by_cases h : M.length < 15
    · have e3 : min M.length 15 = M.length := by omega
      rw [e3] at g8 y5 hX hB hS hK
      simp +contextual (disch := omega) [Nat.add_assoc, Int.add_assoc, if_pos, if_neg, -Int.not_lt, -Int.not_le, -Nat.not_lt, -Nat.not_le, -List.length_flatMap, law11_Made.b1, g4, g5, g7, g8, y0, y5]
      refine hK B1 B2 gs _ _ (by omega) (fun j hj => by rw [Sto.sne _ _ _ _ (by omega), yj j hj]) ?_ ?_ (hS.up hB (by omega) (fun j h1 h2 => by rw [Sto.sne _ _ _ _ (by omega)]))
      · exact hX.up (by omega) (by omega) (fun j h1 h2 => by rw [Sto.sne _ _ _ _ (by omega)])
      · refine Bf.low (Bf.up hB ?_ ?_) ?_
        · omega
        · intro j h1 h2; rw [Sto.sne _ _ _ _ (by omega)]
        · omega
    · have e3 : min M.length 15 = 15 := by omega
      rw [e3] at g8 y5 hX hB hS hK
      by_cases h4 : 15 < M.length
      · simp +contextual (disch := omega) [Nat.add_assoc, Int.add_assoc, if_pos, if_neg, -Int.not_lt, -Int.not_le, -Nat.not_lt, -Nat.not_le, -List.length_flatMap, law11_Made.b1, g4, g5, g7, g8, y0, y5, h4]
        refine hK B1 B2 gs _ _ (by omega) (fun j hj => by rw [Sto.sne _ _ _ _ (by omega), yj j hj]) ?_ ?_ (hS.up hB (by omega) (fun j h1 h2 => by rw [Sto.sne _ _ _ _ (by omega)]))
        · exact hX.up (by omega) (by omega) (fun j h1 h2 => by rw [Sto.sne _ _ _ _ (by omega)])
        · refine Bf.low (Bf.up hB ?_ ?_) ?_
          · omega
          · intro j h1 h2; rw [Sto.sne _ _ _ _ (by omega)]
          · omega
      · simp +contextual (disch := omega) [Nat.add_assoc, Int.add_assoc, if_pos, if_neg, -Int.not_lt, -Int.not_le, -Nat.not_lt, -Nat.not_le, -List.length_flatMap, law11_Made.b1, g4, g5, g7, g8, y0, y5, h4]
        refine hK B1 B2 gs _ _ (by omega) (fun j hj => by rw [Sto.sne _ _ _ _ (by omega), yj j hj]) ?_ ?_ (hS.up hB (by omega) (fun j h1 h2 => by rw [Sto.sne _ _ _ _ (by omega)]))
        · exact hX.up (by omega) (by omega) (fun j h1 h2 => by rw [Sto.sne _ _ _ _ (by omega)])
        · refine Bf.low (Bf.up hB ?_ ?_) ?_
          · omega
          · intro j h1 h2; rw [Sto.sne _ _ _ _ (by omega)]
          · omega
end Pi
