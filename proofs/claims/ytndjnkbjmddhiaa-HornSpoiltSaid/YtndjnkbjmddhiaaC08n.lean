/- Laws of layer 8: clauses with one thing spoilt. -/
import Derived.Test.YtndjnkbjmddhiaaC08m
import Derived.Test.YtndjnkbjmddhiaaC08j
set_option linter.unusedSimpArgs false
set_option linter.unusedVariables false
namespace Pi
theorem law08_Model.w {m0 : Sto} {x0 : Nat} {K : CR → Sto → Nat → Prop} (n : Nat) (hn : n < 256) (l : List Nat) (hb : Byt l) (hl : l.length ≤ 9223372036854775807)
    (hK : ∀ B m' x', x0 ≤ x' → (∀ j, j < x0 → m' j = m0 j) → B = .ms (x0 + 2) 0 (varsB n) 1 → m' (x0 + 2) = some (.cells ((modelB n l).flatMap cI) false) → x0 + 3 ≤ x' → K (.ret B) m' x') :
    w ctx (envOf [.i .u8 n, sV cU l]) m0 x0 [] none none (RetG ctx law08_Model.c.rs K) law08_Model.c.code := by
  have hv : 1 ≤ varsB n ∧ varsB n ≤ 8 := by unfold varsB; omega
  simp +contextual (disch := omega) [Nat.add_assoc, Int.add_assoc, if_pos, if_neg, -Int.not_lt, -Int.not_le, -Nat.not_lt, -Nat.not_le, -List.length_flatMap, law08_Model.c, ansK (law08_Vars.a n hn)]
  refine for_w (fun i e m x => e 1 = sV cU l ∧ e 5 = .ms (x0 + 2) 0 (varsB n) 1 ∧ e 6 = .i .i64 i ∧ x0 + 3 ≤ x ∧ m (x0 + 2) = some (.cells ((modelI l (varsB n) i).flatMap cI) false) ∧ (∀ j, j < x0 → m j = m0 j)) (min l.length (varsB n)) ?_ ?_ ?_
  · have e0 : (modelI l (varsB n) 0).flatMap cI = zeros [V.i .i64 0] (varsB n) := by
      generalize varsB n = v
      unfold modelI
      simp only [Nat.not_lt_zero, if_false]
      induction v with
      | zero => rfl
      | succ v ih => rw [List.range_succ_eq_map, List.map_cons, List.flatMap_cons, List.map_map, zeros, ← ih]; rfl
    simp +contextual (disch := omega) [Nat.add_assoc, Int.add_assoc, if_pos, if_neg, -Int.not_lt, -Int.not_le, -Nat.not_lt, -Nat.not_le, -List.length_flatMap, e0]
  · rintro i e m x hi ⟨g1, g2, g3, g4, g5, g6⟩
    have h1 : i < l.length := by omega
    have h2 : i < varsB n := by omega
    have e1 := modelI_s h1 h2
    have hbi := hb.at h1
    have hlen : (modelI l (varsB n) i).length = varsB n := by simp [modelI]
    have h12 : (l[i] : Int) % 12 = ((l[i] % 12 : Nat) : Int) := rfl
    simp +contextual (disch := omega) [Nat.add_assoc, Int.add_assoc, if_pos, if_neg, -Int.not_lt, -Int.not_le, -Nat.not_lt, -Nat.not_le, -List.length_flatMap, law08_Model.b1, g1, g2, g3, g5, h1, h2, Int.tmod_eq_emod_of_nonneg, hlen]
    rw [flatI_set (by omega), e1, h12]
    exact ⟨by omega, rfl, g6⟩
  · rintro e m x ⟨g1, g2, g3, g4, g5, g6⟩
    rw [modelI_e] at g5
    by_cases h : l.length < varsB n
    · have e3 : min l.length (varsB n) = l.length := by omega
      rw [e3] at g3
      simp +contextual (disch := omega) [Nat.add_assoc, Int.add_assoc, if_pos, if_neg, -Int.not_lt, -Int.not_le, -Nat.not_lt, -Nat.not_le, -List.length_flatMap, law08_Model.b1, g1, g2, g3]
      exact hK _ _ _ (by omega) g6 rfl g5 (by omega)
    · have e3 : min l.length (varsB n) = varsB n := by omega
      rw [e3] at g3
      by_cases h4 : varsB n < l.length
      · simp +contextual (disch := omega) [Nat.add_assoc, Int.add_assoc, if_pos, if_neg, -Int.not_lt, -Int.not_le, -Nat.not_lt, -Nat.not_le, -List.length_flatMap, law08_Model.b1, g1, g2, g3, h4]
        exact hK _ _ _ (by omega) g6 rfl g5 (by omega)
      · simp +contextual (disch := omega) [Nat.add_assoc, Int.add_assoc, if_pos, if_neg, -Int.not_lt, -Int.not_le, -Nat.not_lt, -Nat.not_le, -List.length_flatMap, law08_Model.b1, g1, g2, g3, h4]
        exact hK _ _ _ (by omega) g6 rfl g5 (by omega)
theorem trips_var : ∀ {fs : List V} {cl : List C} {i : Nat} {k : Int}, fs.length = cl.length → (hi : i < cl.length) → (trips fs cl).take (i * 3 + 1) ++ .i .i64 k :: (trips fs cl).drop (i * 3 + 2) = trips fs (cl.set i ⟨cl[i].frm, ⟨k, cl[i].to.off⟩⟩)
  | [], [], i, _, _, hi => by simp at hi
  | G :: fs, c :: cl, 0, F, h, hi => by simp [trips, trip]
  | G :: fs, c :: cl, i + 1, k, h, hi => by
    have ih := trips_var (i := i) (k := k) (fs := fs) (cl := cl) (by simpa using h) (by simpa using hi)
    have e1 : (i + 1) * 3 + 1 = i * 3 + 1 + 1 + 1 + 1 := by omega
    have e2 : (i + 1) * 3 + 2 = i * 3 + 2 + 1 + 1 + 1 := by omega
    rw [List.set_cons_succ, trips, trips, e1, e2]
    simp only [trip, List.cons_append, List.nil_append, List.take_succ_cons, List.drop_succ_cons, ih, List.getElem_cons_succ]
  | [], _ :: _, _, _, h, _ => by simp at h
  | _ :: _, [], _, _, h, _ => by simp at h
theorem trips_off : ∀ {fs : List V} {cl : List C} {i : Nat} {k : Int}, fs.length = cl.length → (hi : i < cl.length) → (trips fs cl).take (i * 3 + 2) ++ .i .i64 k :: (trips fs cl).drop (i * 3 + 3) = trips fs (cl.set i ⟨cl[i].frm, ⟨cl[i].to.var, k⟩⟩)
  | [], [], i, _, _, hi => by simp at hi
  | G :: fs, c :: cl, 0, F, h, hi => by simp [trips, trip]
  | G :: fs, c :: cl, i + 1, k, h, hi => by
    have ih := trips_off (i := i) (k := k) (fs := fs) (cl := cl) (by simpa using h) (by simpa using hi)
    have e1 : (i + 1) * 3 + 2 = i * 3 + 2 + 1 + 1 + 1 := by omega
    have e2 : (i + 1) * 3 + 3 = i * 3 + 3 + 1 + 1 + 1 := by omega
    rw [List.set_cons_succ, trips, trips, e1, e2]
    simp only [trip, List.cons_append, List.nil_append, List.take_succ_cons, List.drop_succ_cons, ih, List.getElem_cons_succ]
  | [], _ :: _, _, _, h, _ => by simp at h
  | _ :: _, [], _, _, h, _ => by simp at h
theorem trips_to : ∀ {fs : List V} {cl dl : List C}, cl.map C.to = dl.map C.to → trips fs cl = trips fs dl
  | [], [], [], _ => rfl
  | [], _ :: _, _ :: _, _ => rfl
  | _ :: _, [], [], _ => rfl
  | F :: fs, c :: cl, d :: dl, h => by
    simp only [List.map_cons, List.cons.injEq] at h
    rw [trips, trips, trips_to h.2, trip, trip, h.1]
  | _, [], _ :: _, h => by simp at h
  | _, _ :: _, [], h => by simp at h
theorem Fr.put {A : Nat → Prop} {m : Sto} : ∀ {fs : List V} {cl : List C} {i : Nat} {F : V} {c : C}, Fr A m fs cl → Rl A m cA 2 F c.frm → Fr A m (fs.set i F) (cl.set i c)
  | [], [], i, _, _, h, _ => h
  | G :: fs, d :: cl, 0, F, c, h, k => ⟨k, h.2⟩
  | G :: fs, d :: cl, i + 1, F, c, h, k => ⟨h.1, Fr.put (i := i) h.2 k⟩
  | [], _ :: _, _, _, _, h, _ => h.elim
  | _ :: _, [], _, _, _, h, _ => h.elim
theorem Bf.new1 {α : Type} {f : α → List V} {k : Nat} [h : Cel f k] {m' : Sto} (l : List α) {slot n : Nat} {K : V → Ws → Prop} {xs : List V} (hne : l ≠ []) (hxs : xs = l.flatMap f) (hn : n = l.length) (hl : l.length ≤ 2147483648)
    (hK : ∀ ws m2, m'.app ws = m2 → m2 slot = some (.cells xs false) → (∀ j, j ≠ slot → m2 j = m' j) → K (.ms slot 0 l.length k) ws) : opK (apV m' k .ns xs n slot) K := by
  subst hn hxs
  have hB : l.length ≤ BIG := by unfold BIG; omega
  have h0 : l.length ≠ 0 := by simpa using hne
  rw [apV_ns, if_neg h0, if_pos hB]
  refine hK _ _ rfl (by rw [sapp_cons, sapp_nil, Sto.seq]) (fun j hj => ?_)
  rw [sapp_cons, sapp_nil, Sto.sne _ _ _ _ (by simpa using hj)]
theorem zerosA (N : Nat) : zeros [V.i .i64 0, .i .i64 0] N = (List.replicate N (⟨0, 0⟩ : A)).flatMap cA := by
  induction N with
  | zero => rfl
  | succ N ih => rw [List.replicate_succ, List.flatMap_cons, zeros, ih]; rfl
/-- A list, and its first one again and again. -/
def moreL (b : List C) (i : Nat) : List C := b ++ List.replicate i (b[0]?.getD default)
theorem moreL_len (b : List C) (i : Nat) : (moreL b i).length = b.length + i := by simp [moreL]
theorem moreL_s (b : List C) (i : Nat) (hb : 0 < b.length) : moreL b (i + 1) = moreL b i ++ [b[0]] := by
  unfold moreL
  rw [List.replicate_succ', ← List.append_assoc, List.getElem?_eq_getElem hb]
  rfl
theorem moreL_mem (b : List C) (i : Nat) (hb : 0 < b.length) : ∀ c ∈ moreL b i, c ∈ b := by
  intro c hc
  rcases List.mem_append.1 hc with hc | hc
  · exact hc
  · rw [(List.mem_replicate.1 hc).2, List.getElem?_eq_getElem hb]
    exact List.getElem_mem hb
theorem moreL_0 (b : List C) (i : Nat) (hb : 0 < b.length) (h : 0 < (moreL b i).length) : (moreL b i)[0] = b[0] := by
  simp only [moreL]
  rw [List.getElem_append_left hb]
/-- Clauses more, where all else is known to stay. -/
theorem Fr.apIn {m' : Sto} {a : Nat} {cl dl : List C} {fs gs : List V} {slot n : Nat} {K : V → Ws → Prop} {xs : List V} (ha : m' a = some (.cells (trips fs cl) false)) (hf : fs.length = cl.length) (hxs : xs = trips gs dl) (hn : n = dl.length) (h0 : dl.length ≠ 0) (hl : cl.length + dl.length ≤ 2147483648)
    (hK : ∀ ws m2, m'.app ws = m2 → m2 slot = some (.cells (trips (fs ++ gs) (cl ++ dl)) false) → (∀ j, j ≠ a → j ≠ slot → m2 j = m' j) → K (.ms slot 0 (cl ++ dl).length 3) ws) : opK (apV m' 3 (.ms a 0 cl.length 3) xs n slot) K := by
  subst hn hxs
  have hfl := trips_len hf
  have hB : cl.length + dl.length ≤ BIG := by unfold BIG; omega
  rw [apV_ms, if_neg h0, ha, apO_cells, if_pos ⟨rfl, by rw [hfl]; exact Nat.le_refl _, hB⟩, List.take_of_length_le (by rw [hfl]; exact Nat.le_refl _)]
  rw [← List.length_append]
  refine hK _ _ rfl (by rw [sapp_cons, sapp_cons, sapp_nil, Sto.seq, trips_app hf]) (fun j q1 q2 => ?_)
  rw [sapp_cons, sapp_cons, sapp_nil, Sto.sne _ _ _ _ q2, Sto.sne _ _ _ _ q1]
set_option maxHeartbeats 2000000 in
theorem law08_HornSpoilt.a (n : Nat) (hn : n < 256) (l v : List Nat) (hb : Byt l) (hl : l.length ≤ 9223372036854775807) (hbv : Byt v) (hlv : v.length ≤ 9223372036854775807) (how : Nat) (hh : how < 256) (k : Int) (hk : -9223372036854775808 ≤ k ∧ k < 9223372036854775808) :
    Ans ctx law08_HornSpoilt.n [.i .u8 n, sV cU l, sV cU v, .i .u8 how, .i .i64 k] (.b true) := by
  obtain ⟨vs, hvs⟩ : ∃ vs, vs = [V.i .u8 n, sV cU l, sV cU v, .i .u8 how, .i .i64 k] := ⟨_, rfl⟩
  rw [← hvs]
  refine ans law08_HornSpoilt.f ?_
  have hv := varsB_bd n
  simp +contextual (disch := omega) [Nat.add_assoc, Int.add_assoc, if_pos, if_neg, -Int.not_lt, -Int.not_le, -Nat.not_lt, -Nat.not_le, -List.length_flatMap, hvs, law08_HornSpoilt.c]
  rw [CallX_op (by rfl)]
  refine openg_w rfl rfl (.inl rfl) ?_
  have hfo : ctx.frz law08_Made.n = false := rfl
  have hfm : ctx.frz law08_Model.n = false := rfl
  rw [hfo]
  refine law08_Made.w n hn l hb hl ?_
  intro B gs m1 x1 hx1 hm1 hX1
  have h30 := made_len n l
  have hok := made_ok n l
  generalize madeC n l = M at *
  simp +contextual (disch := omega) [Nat.add_assoc, Int.add_assoc, if_pos, if_neg, -Int.not_lt, -Int.not_le, -Nat.not_lt, -Nat.not_le, -List.length_flatMap, -apV_ns]
  refine hX1.ap (lo := 0) (dl := [⟨[⟨0, 0⟩], ⟨0, 0⟩⟩]) (gs := [.ms (x1 + 1) 0 1 2]) (fun j h1 h2 => by rw [Sto.sne _ _ _ _ (by omega), Sto.sne _ _ _ _ (by omega)]) (by omega) (by omega) (by omega) rfl rfl ?_ (by simp; omega) ?_
  · refine ⟨(Rl.Bf (Bf.mem (f := cA) (k := 2) (lo := x1 + 1) (x := x1 + 2) (l := [⟨0, 0⟩]) (cs := cA ⟨0, 0⟩) (by simp +contextual (disch := omega) [Nat.add_assoc, Int.add_assoc, if_pos, if_neg, -Int.not_lt, -Int.not_le, -Nat.not_lt, -Nat.not_le, -List.length_flatMap]; rfl) (by simp) rfl (by omega) (by omega))).mono (fun j hj => ⟨by omega, by omega, by omega⟩), trivial⟩
  intro B2 ws m2 p0 p1 p2 p3
  have hL0 : 0 < (M ++ [(⟨[⟨0, 0⟩], ⟨0, 0⟩⟩ : C)]).length := by simp
  have hL31 : (M ++ [(⟨[⟨0, 0⟩], ⟨0, 0⟩⟩ : C)]).length ≤ 31 := by simp; omega
  have hLk : ∀ c ∈ M ++ [(⟨[⟨0, 0⟩], ⟨0, 0⟩⟩ : C)], 1 ≤ c.frm.length ∧ c.frm.length ≤ 6 := fun c hc => by
    rcases List.mem_append.1 hc with hc | hc
    · exact ⟨List.length_pos_iff.2 (okC_ne (hok c hc)), okC_six (hok c hc)⟩
    · rw [List.mem_singleton.1 hc]; simp
  generalize M ++ [(⟨[⟨0, 0⟩], ⟨0, 0⟩⟩ : C)] = L at *
  rcases p1 with ⟨_, h, _⟩ | ⟨a, rfl, h2, h3, h4, h5⟩
  · rw [h] at hL0; simp at hL0
  generalize gs ++ [V.ms (x1 + 1) 0 1 2] = fs at *
  simp +contextual (disch := omega) [Nat.add_assoc, Int.add_assoc, if_pos, if_neg, -Int.not_lt, -Int.not_le, -Nat.not_lt, -Nat.not_le, -List.length_flatMap, p0]
  rw [CallX_op (by rfl)]
  refine openg_w rfl rfl (.inl rfl) ?_
  rw [hfm]
  refine law08_Model.w n hn v hbv hlv ?_
  intro BM m3 x3 hx3 hm3 hBM hMM hx3'
  subst hBM
  have hMl := modelB_len n v
  obtain ⟨q, hq⟩ : ∃ q, q = how / 8 % L.length := ⟨_, rfl⟩
  have hqL : q < L.length := by rw [hq]; exact Nat.mod_lt _ hL0
  have eq : (how : Int) / 8 % (L.length : Int) = (q : Nat) := by rw [hq]; rfl
  have hfl := trips_len h5.len
  have hfs := h5.len
  obtain ⟨F, hF1, hF2⟩ := h5.at hqL
  have hcut : ((trips fs L).drop (q * 3)).take 3 = trip F L[q] := by
    rw [trips_drop hfs, List.drop_eq_getElem_cons (by omega : q < fs.length), List.drop_eq_getElem_cons hqL]
    rw [List.getElem?_eq_getElem (by omega)] at hF1
    cases hF1
    rfl
  have ha3 : m3 a = some (.cells (trips fs L) false) := by rw [hm3 a (by omega), h2]
  have u1 : apCells m3 2 F = some (L[q].frm.flatMap cA) := (ap_of hF2.len).trans (hF2.sl _ (.eq fun j hj => hm3 j (by omega)))
  have u2 := lenV_of (m := m3) hF2.len
  have hfr := hLk _ (List.getElem_mem hqL)
  have hg0 : ∀ h : q * 3 < (trips fs L).length, (trips fs L)[q * 3] = F := fun h => by
    have h1 : (((trips fs L).drop (q * 3)).take 3)[0]? = some F := by rw [hcut]; rfl
    rw [List.getElem?_take, if_pos (by omega), List.getElem?_drop, Nat.add_zero, List.getElem?_eq_getElem h] at h1
    simpa using h1
  simp +contextual (disch := omega) [Nat.add_assoc, Int.add_assoc, if_pos, if_neg, -Int.not_lt, -Int.not_le, -Nat.not_lt, -Nat.not_le, -List.length_flatMap, eq, hfl, ha3, hg0, u1, u2, Int.tdiv_eq_ediv_of_nonneg, Int.tmod_eq_emod_of_nonneg, -apV_ns]
  refine Bf.new1 L[q].frm (List.length_pos_iff.1 (by omega)) rfl rfl (by omega) ?_
  intro wsF m4 v1 v4 v3
  obtain ⟨Y, hY⟩ : ∃ Y, Y = x3 + 15 := ⟨_, rfl⟩
  rw [← hY]
  have hset : (trips fs L).take (q * 3) ++ V.ms Y 0 L[q].frm.length 2 :: (trips fs L).drop (q * 3 + 1) = trips (fs.set q (.ms Y 0 L[q].frm.length 2)) L := by
    have h1 := trips_set (F := .ms Y 0 L[q].frm.length 2) hfs hqL
    rw [List.set_eq_take_append_cons_drop, if_pos (by omega)] at h1
    exact h1
  rw [← hY] at v4 v3
  have va : m4 a = some (.cells (trips fs L) false) := by rw [v3 a (by omega), ha3]
  obtain ⟨r, hr⟩ : ∃ r, r = how % 8 := ⟨_, rfl⟩
  have er : (how : Int) % 8 = (r : Nat) := by rw [hr]; rfl
  have hcs : r = 0 ∨ r = 1 ∨ r = 2 ∨ r = 3 ∨ r = 4 ∨ r = 5 ∨ r = 6 ∨ r = 7 := by omega
  clear hr
  have hfs' : (fs.set q (.ms Y 0 L[q].frm.length 2)).length = L.length := by rw [List.length_set, hfs]
  have hfl' := trips_len hfs'
  have hFr : ∀ (MM : Sto) (X : Nat) (G : V) (c : C), x1 + 5 ≤ X → (∀ j, j < x1 + 5 → j ≠ a → MM j = m4 j) → Rl (fun j => 0 ≤ j ∧ j < X ∧ j ≠ a) MM cA 2 G c.frm → Fr (fun j => 0 ≤ j ∧ j < X ∧ j ≠ a) MM (fs.set q G) (L.set q c) := by
    intro MM X G c q1 q2 q3
    refine Fr.put (h5.up (.eq fun j hj => ?_) (fun j hj => ⟨by omega, by omega, hj.2.2⟩)) q3
    rw [q2 j (by omega) hj.2.2, v3 j (by omega), hm3 j (by omega)]
  have hBM : ∀ (MM : Sto) (X : Nat), x3 ≤ X → MM (x1 + 10) = m4 (x1 + 10) → Bf MM (.ms (x1 + 10) 0 (varsB n) 1) cI 1 (modelB n v) 0 X := by
    intro MM X q1 q2
    refine .mem (by rw [q2, v3 _ (by omega), hMM]) rfl (by rw [hMl]) (by omega) (by omega)
  have hXc : ∀ (MM : Sto) (X : Nat) (G : V) (c : C), x1 + 5 ≤ X → (∀ j, j < x1 + 5 → j ≠ a → MM j = m4 j) → MM a = some (.cells (trips (fs.set q G) (L.set q c)) false) → Rl (fun j => 0 ≤ j ∧ j < X ∧ j ≠ a) MM cA 2 G c.frm → Xc MM (.ms a 0 L.length 3) (L.set q c) (fs.set q G) 0 X := by
    intro MM X G c q1 q2 q3 q4
    exact .inr ⟨a, by rw [List.length_set], q3, by omega, by omega, hFr MM X G c q1 q2 q4⟩
  have hT : ∀ (L' : List C) (M' : List Int), L'.length ≤ 1000 → (∀ c ∈ L', c.frm.length ≤ 1000) → M'.length ≤ 1000 → Ans ctx law08_told.n [.i .i64 (varsB n : Nat), sV cC L', sV cI M'] (.b true) := fun L' M' q1 q2 q3 => law08_told.a (varsB n) L' M' (by omega) (fun c hc => by have := q2 c hc; omega) (by omega)
  have hV := law08_Vars.a n hn
  have hRl : ∀ (MM : Sto) (X : Nat) (fr : List A), Y < X → fr.length = L[q].frm.length → MM Y = some (.cells (fr.flatMap cA) false) → Rl (fun j => 0 ≤ j ∧ j < X ∧ j ≠ a) MM cA 2 (.ms Y 0 L[q].frm.length 2) fr := by
    intro MM X fr q1 q2 q3
    exact (Rl.Bf (Bf.mem (f := cA) (k := 2) (lo := Y) (x := Y + 1) (l := fr) q3 rfl q2.symm (by omega) (by omega))).mono (fun j hj => ⟨by omega, by omega, by omega⟩)
  have hsL : ∀ c : C, c.frm.length ≤ 1000 → ∀ d ∈ L.set q c, d.frm.length ≤ 1000 := fun c hc d hd => by
    rcases List.mem_or_eq_of_mem_set hd with h | h
    · have := hLk d h; omega
    · rw [h]; omega
  have hgF : ∀ h : q * 3 < (trips (fs.set q (.ms Y 0 L[q].frm.length 2)) L).length, (trips (fs.set q (.ms Y 0 L[q].frm.length 2)) L)[q * 3] = .ms Y 0 L[q].frm.length 2 := fun h => by
    have h1 : (trips (fs.set q (.ms Y 0 L[q].frm.length 2)) L)[q * 3]? = some (.ms Y 0 L[q].frm.length 2) := by
      rw [← trips_set hfs hqL, List.getElem?_set_self (by rw [hfl]; omega)]
    rw [List.getElem?_eq_getElem h] at h1
    simpa using h1
  have hset' : ∀ G, (trips (fs.set q (.ms Y 0 L[q].frm.length 2)) L).take (q * 3) ++ G :: (trips (fs.set q (.ms Y 0 L[q].frm.length 2)) L).drop (q * 3 + 1) = trips (fs.set q G) L := fun G => by
    have h1 := trips_set (F := G) hfs' hqL
    rw [List.set_eq_take_append_cons_drop, if_pos (by omega), List.set_set] at h1
    exact h1
  have hto : ∀ gs fr, trips gs (L.set q ⟨fr, L[q].to⟩) = trips gs L := fun gs fr => by
    refine trips_to ?_
    rw [List.map_set]
    refine List.ext_getElem (by simp) (fun i h1 h2 => ?_)
    rw [List.getElem_set]
    split
    · rename_i h; subst h; simp
    · rfl
  obtain ⟨b0, bs, hbb⟩ : ∃ b0 bs, L[q].frm = b0 :: bs := by
    cases h : L[q].frm with
    | nil => rw [h] at hfr; simp at hfr
    | cons b0 bs => exact ⟨b0, bs, rfl⟩
  rcases hcs with rfl | rfl | rfl | rfl | rfl | rfl | rfl | rfl
  · simp +contextual (disch := omega) [Nat.add_assoc, Int.add_assoc, if_pos, if_neg, -Int.not_lt, -Int.not_le, -Nat.not_lt, -Nat.not_le, -List.length_flatMap, v1, va, hfl, hset, hfl', er, Int.tmod_eq_emod_of_nonneg]
    rw [trips_var hfs' hqL]
    generalize hMM' : Sto.set _ a _ = MM
    have hX := hXc MM (x3 + 29) (.ms Y 0 L[q].frm.length 2) ⟨L[q].frm, ⟨k, L[q].to.off⟩⟩ (by omega) (fun j q1 q2 => by rw [← hMM']; simp +contextual (disch := omega) [Nat.add_assoc, Int.add_assoc, if_pos, if_neg, -Int.not_lt, -Int.not_le, -Nat.not_lt, -Nat.not_le, -List.length_flatMap]) (by rw [← hMM']; simp +contextual (disch := omega) [Nat.add_assoc, Int.add_assoc, if_pos, if_neg, -Int.not_lt, -Int.not_le, -Nat.not_lt, -Nat.not_le, -List.length_flatMap]) (hRl _ _ _ (by omega) rfl (by rw [← hMM']; simp +contextual (disch := omega) [Nat.add_assoc, Int.add_assoc, if_pos, if_neg, -Int.not_lt, -Int.not_le, -Nat.not_lt, -Nat.not_le, -List.length_flatMap, v4]))
    obtain ⟨ids, hz, _⟩ := hX.rc.fz24
    have hz2 := (hBM MM (x3 + 29) (by omega) (by rw [← hMM']; simp +contextual (disch := omega) [Nat.add_assoc, Int.add_assoc, if_pos, if_neg, -Int.not_lt, -Int.not_le, -Nat.not_lt, -Nat.not_le, -List.length_flatMap])).fz24
    generalize V.ms a 0 L.length 3 = BL at *
    generalize V.ms (x1 + 10) 0 (varsB n) 1 = BM at *
    simp +contextual (disch := omega) [Nat.add_assoc, Int.add_assoc, if_pos, if_neg, -Int.not_lt, -Int.not_le, -Nat.not_lt, -Nat.not_le, -List.length_flatMap, ansK law08_awake.a, ansK hV, hz, hz2, ansK (hT _ _ (by rw [List.length_set]; omega) (hsL ⟨L[q].frm, ⟨k, L[q].to.off⟩⟩ (Nat.le_trans hfr.2 (by omega))) (by omega : (modelB n v).length ≤ 1000))]
  · simp +contextual (disch := omega) [Nat.add_assoc, Int.add_assoc, if_pos, if_neg, -Int.not_lt, -Int.not_le, -Nat.not_lt, -Nat.not_le, -List.length_flatMap, v1, va, hfl, hset, hfl', er, Int.tmod_eq_emod_of_nonneg]
    rw [trips_off hfs' hqL]
    generalize hMM' : Sto.set _ a _ = MM
    have hX := hXc MM (x3 + 29) (.ms Y 0 L[q].frm.length 2) ⟨L[q].frm, ⟨L[q].to.var, k⟩⟩ (by omega) (fun j q1 q2 => by rw [← hMM']; simp +contextual (disch := omega) [Nat.add_assoc, Int.add_assoc, if_pos, if_neg, -Int.not_lt, -Int.not_le, -Nat.not_lt, -Nat.not_le, -List.length_flatMap]) (by rw [← hMM']; simp +contextual (disch := omega) [Nat.add_assoc, Int.add_assoc, if_pos, if_neg, -Int.not_lt, -Int.not_le, -Nat.not_lt, -Nat.not_le, -List.length_flatMap]) (hRl _ _ _ (by omega) rfl (by rw [← hMM']; simp +contextual (disch := omega) [Nat.add_assoc, Int.add_assoc, if_pos, if_neg, -Int.not_lt, -Int.not_le, -Nat.not_lt, -Nat.not_le, -List.length_flatMap, v4]))
    obtain ⟨ids, hz, _⟩ := hX.rc.fz24
    have hz2 := (hBM MM (x3 + 29) (by omega) (by rw [← hMM']; simp +contextual (disch := omega) [Nat.add_assoc, Int.add_assoc, if_pos, if_neg, -Int.not_lt, -Int.not_le, -Nat.not_lt, -Nat.not_le, -List.length_flatMap])).fz24
    generalize V.ms a 0 L.length 3 = BL at *
    generalize V.ms (x1 + 10) 0 (varsB n) 1 = BM at *
    simp +contextual (disch := omega) [Nat.add_assoc, Int.add_assoc, if_pos, if_neg, -Int.not_lt, -Int.not_le, -Nat.not_lt, -Nat.not_le, -List.length_flatMap, ansK law08_awake.a, ansK hV, hz, hz2, ansK (hT _ _ (by rw [List.length_set]; omega) (hsL ⟨L[q].frm, ⟨L[q].to.var, k⟩⟩ (Nat.le_trans hfr.2 (by omega))) (by omega : (modelB n v).length ≤ 1000))]
  · have hfbb := congrArg List.length hbb
    simp only [List.length_cons] at hfbb
    rw [hbb] at v4
    simp +contextual (disch := omega) [Nat.add_assoc, Int.add_assoc, if_pos, if_neg, -Int.not_lt, -Int.not_le, -Nat.not_lt, -Nat.not_le, -List.length_flatMap, v1, va, hfl, hset, hfl', er, Int.tmod_eq_emod_of_nonneg, v4, hgF, hfr]
    generalize hMM' : Sto.set _ Y _ = MM
    have hX := hXc MM (Y + 20) (.ms Y 0 L[q].frm.length 2) ⟨⟨k, b0.off⟩ :: bs, L[q].to⟩ (by omega) (fun j q1 q2 => by rw [← hMM']; simp +contextual (disch := omega) [Nat.add_assoc, Int.add_assoc, if_pos, if_neg, -Int.not_lt, -Int.not_le, -Nat.not_lt, -Nat.not_le, -List.length_flatMap]) (by rw [← hMM']; rw [hto]; simp +contextual (disch := omega) [Nat.add_assoc, Int.add_assoc, if_pos, if_neg, -Int.not_lt, -Int.not_le, -Nat.not_lt, -Nat.not_le, -List.length_flatMap]) (hRl _ _ _ (by omega) (by rw [hbb]; simp) (by rw [← hMM']; simp +contextual (disch := omega) [Nat.add_assoc, Int.add_assoc, if_pos, if_neg, -Int.not_lt, -Int.not_le, -Nat.not_lt, -Nat.not_le, -List.length_flatMap]; rfl))
    obtain ⟨ids, hz, _⟩ := hX.rc.fz24
    have hz2 := (hBM MM (Y + 20) (by omega) (by rw [← hMM']; simp +contextual (disch := omega) [Nat.add_assoc, Int.add_assoc, if_pos, if_neg, -Int.not_lt, -Int.not_le, -Nat.not_lt, -Nat.not_le, -List.length_flatMap])).fz24
    generalize V.ms a 0 L.length 3 = BL at *
    generalize V.ms (x1 + 10) 0 (varsB n) 1 = BM at *
    simp +contextual (disch := omega) [Nat.add_assoc, Int.add_assoc, if_pos, if_neg, -Int.not_lt, -Int.not_le, -Nat.not_lt, -Nat.not_le, -List.length_flatMap, ansK law08_awake.a, ansK hV, hz, hz2, ansK (hT _ _ (by rw [List.length_set]; omega) (hsL ⟨⟨k, b0.off⟩ :: bs, L[q].to⟩ (by simp only [List.length_cons]; omega)) (by omega : (modelB n v).length ≤ 1000))]
  · have hfbb := congrArg List.length hbb
    simp only [List.length_cons] at hfbb
    rw [hbb] at v4
    simp +contextual (disch := omega) [Nat.add_assoc, Int.add_assoc, if_pos, if_neg, -Int.not_lt, -Int.not_le, -Nat.not_lt, -Nat.not_le, -List.length_flatMap, v1, va, hfl, hset, hfl', er, Int.tmod_eq_emod_of_nonneg, v4, hgF, hfr]
    generalize hMM' : Sto.set _ Y _ = MM
    have hX := hXc MM (Y + 22) (.ms Y 0 L[q].frm.length 2) ⟨⟨b0.var, k⟩ :: bs, L[q].to⟩ (by omega) (fun j q1 q2 => by rw [← hMM']; simp +contextual (disch := omega) [Nat.add_assoc, Int.add_assoc, if_pos, if_neg, -Int.not_lt, -Int.not_le, -Nat.not_lt, -Nat.not_le, -List.length_flatMap]) (by rw [← hMM']; rw [hto]; simp +contextual (disch := omega) [Nat.add_assoc, Int.add_assoc, if_pos, if_neg, -Int.not_lt, -Int.not_le, -Nat.not_lt, -Nat.not_le, -List.length_flatMap]) (hRl _ _ _ (by omega) (by rw [hbb]; simp) (by rw [← hMM']; simp +contextual (disch := omega) [Nat.add_assoc, Int.add_assoc, if_pos, if_neg, -Int.not_lt, -Int.not_le, -Nat.not_lt, -Nat.not_le, -List.length_flatMap]; rfl))
    obtain ⟨ids, hz, _⟩ := hX.rc.fz24
    have hz2 := (hBM MM (Y + 22) (by omega) (by rw [← hMM']; simp +contextual (disch := omega) [Nat.add_assoc, Int.add_assoc, if_pos, if_neg, -Int.not_lt, -Int.not_le, -Nat.not_lt, -Nat.not_le, -List.length_flatMap])).fz24
    generalize V.ms a 0 L.length 3 = BL at *
    generalize V.ms (x1 + 10) 0 (varsB n) 1 = BM at *
    simp +contextual (disch := omega) [Nat.add_assoc, Int.add_assoc, if_pos, if_neg, -Int.not_lt, -Int.not_le, -Nat.not_lt, -Nat.not_le, -List.length_flatMap, ansK law08_awake.a, ansK hV, hz, hz2, ansK (hT _ _ (by rw [List.length_set]; omega) (hsL ⟨⟨b0.var, k⟩ :: bs, L[q].to⟩ (by simp only [List.length_cons]; omega)) (by omega : (modelB n v).length ≤ 1000))]
  · simp +contextual (disch := omega) [Nat.add_assoc, Int.add_assoc, if_pos, if_neg, -Int.not_lt, -Int.not_le, -Nat.not_lt, -Nat.not_le, -List.length_flatMap, v1, va, hfl, hset, hfl', er, Int.tmod_eq_emod_of_nonneg]
    generalize hMM' : Sto.set _ a _ = MM
    have hX := hXc MM (Y + 20) (.ns) ⟨[], L[q].to⟩ (by omega) (fun j q1 q2 => by rw [← hMM']; simp +contextual (disch := omega) [Nat.add_assoc, Int.add_assoc, if_pos, if_neg, -Int.not_lt, -Int.not_le, -Nat.not_lt, -Nat.not_le, -List.length_flatMap]) (by rw [← hMM']; rw [hto]; simp +contextual (disch := omega) [Nat.add_assoc, Int.add_assoc, if_pos, if_neg, -Int.not_lt, -Int.not_le, -Nat.not_lt, -Nat.not_le, -List.length_flatMap, hset']) ((Rl.Bf (lo := 0) (x := 0) Bf.nil).mono (fun j hj => by omega))
    obtain ⟨ids, hz, _⟩ := hX.rc.fz24
    have hz2 := (hBM MM (Y + 20) (by omega) (by rw [← hMM']; simp +contextual (disch := omega) [Nat.add_assoc, Int.add_assoc, if_pos, if_neg, -Int.not_lt, -Int.not_le, -Nat.not_lt, -Nat.not_le, -List.length_flatMap])).fz24
    generalize V.ms a 0 L.length 3 = BL at *
    generalize V.ms (x1 + 10) 0 (varsB n) 1 = BM at *
    simp +contextual (disch := omega) [Nat.add_assoc, Int.add_assoc, if_pos, if_neg, -Int.not_lt, -Int.not_le, -Nat.not_lt, -Nat.not_le, -List.length_flatMap, ansK law08_awake.a, ansK hV, hz, hz2, ansK (hT _ _ (by rw [List.length_set]; omega) (hsL ⟨[], L[q].to⟩ (by simp)) (by omega : (modelB n v).length ≤ 1000))]
  · obtain ⟨N, hN⟩ : ∃ N : Nat, N = 5 + how / 8 % 3 := ⟨_, rfl⟩
    have hN2 : (5 + (how : Int) / 8 % 3).toNat = N := by omega
    simp +contextual (disch := omega) [Nat.add_assoc, Int.add_assoc, if_pos, if_neg, -Int.not_lt, -Int.not_le, -Nat.not_lt, -Nat.not_le, -List.length_flatMap, v1, va, hfl, hset, hfl', er, Int.tmod_eq_emod_of_nonneg, Int.tdiv_eq_ediv_of_nonneg, hN2]
    generalize hMM' : Sto.set _ a _ = MM
    have hX := hXc MM (Y + 28) (.ms (Y + 24) 0 N 2) ⟨List.replicate N ⟨0, 0⟩, L[q].to⟩ (by omega) (fun j q1 q2 => by rw [← hMM']; simp +contextual (disch := omega) [Nat.add_assoc, Int.add_assoc, if_pos, if_neg, -Int.not_lt, -Int.not_le, -Nat.not_lt, -Nat.not_le, -List.length_flatMap]) (by rw [← hMM']; rw [hto]; simp +contextual (disch := omega) [Nat.add_assoc, Int.add_assoc, if_pos, if_neg, -Int.not_lt, -Int.not_le, -Nat.not_lt, -Nat.not_le, -List.length_flatMap, hset']) ((Rl.Bf (Bf.mem (f := cA) (k := 2) (lo := Y + 24) (x := Y + 25) (l := List.replicate N ⟨0, 0⟩) (by rw [← hMM']; simp +contextual (disch := omega) [Nat.add_assoc, Int.add_assoc, if_pos, if_neg, -Int.not_lt, -Int.not_le, -Nat.not_lt, -Nat.not_le, -List.length_flatMap]; exact zerosA N) rfl (by simp) (by omega) (by omega))).mono (fun j hj => ⟨by omega, by omega, by omega⟩))
    obtain ⟨ids, hz, _⟩ := hX.rc.fz24
    have hz2 := (hBM MM (Y + 28) (by omega) (by rw [← hMM']; simp +contextual (disch := omega) [Nat.add_assoc, Int.add_assoc, if_pos, if_neg, -Int.not_lt, -Int.not_le, -Nat.not_lt, -Nat.not_le, -List.length_flatMap])).fz24
    generalize V.ms a 0 L.length 3 = BL at *
    generalize V.ms (x1 + 10) 0 (varsB n) 1 = BM at *
    simp +contextual (disch := omega) [Nat.add_assoc, Int.add_assoc, if_pos, if_neg, -Int.not_lt, -Int.not_le, -Nat.not_lt, -Nat.not_le, -List.length_flatMap, ansK law08_awake.a, ansK hV, hz, hz2, ansK (hT _ _ (by rw [List.length_set]; omega) (hsL ⟨List.replicate N ⟨0, 0⟩, L[q].to⟩ (by simp; omega)) (by omega : (modelB n v).length ≤ 1000))]
  · have hself : L.set q L[q] = L := List.set_getElem_self hqL
    have hX0 := hFr (m4.set a (some (.cells (trips (fs.set q (.ms Y 0 L[q].frm.length 2)) L) false))) (Y + 21) (.ms Y 0 L[q].frm.length 2) L[q] (by omega) (fun j q1 q2 => by simp +contextual (disch := omega) [Nat.add_assoc, Int.add_assoc, if_pos, if_neg, -Int.not_lt, -Int.not_le, -Nat.not_lt, -Nat.not_le, -List.length_flatMap]) (hRl _ _ _ (by omega) rfl (by simp +contextual (disch := omega) [Nat.add_assoc, Int.add_assoc, if_pos, if_neg, -Int.not_lt, -Int.not_le, -Nat.not_lt, -Nat.not_le, -List.length_flatMap, v4]))
    rw [hself] at hX0
    have v10 : m4 (x1 + 10) = some (.cells ((modelB n v).flatMap cI) false) := by rw [v3 _ (by omega), hMM]
    simp +contextual (disch := omega) [Nat.add_assoc, Int.add_assoc, if_pos, if_neg, -Int.not_lt, -Int.not_le, -Nat.not_lt, -Nat.not_le, -List.length_flatMap, v1, va, hfl, hset, hfl', er, Int.tmod_eq_emod_of_nonneg, Int.tdiv_eq_ediv_of_nonneg]
    generalize fs.set q (V.ms Y 0 L[q].frm.length 2) = gs0 at *
    obtain ⟨T, hTT⟩ : ∃ T : Nat, T = 59 + how / 8 % 4 := ⟨_, rfl⟩
    have hT2 : (59 + (how : Int) / 8 % 4) = T := by omega
    have hmore : ∀ i, moreL L (i + 1) = moreL L i ++ [L[0]] := fun i => moreL_s L i hL0
    have hml := moreL_len L
    refine for_w (fun i e m x => ∃ (a' : Nat) (gs' : List V), e 0 = .i .u8 n ∧ e 3 = .i .u8 how ∧ e 11 = .ms a' 0 (moreL L i).length 3 ∧ e 12 = .ms (x1 + 10) 0 (varsB n) 1 ∧ e 14 = .i .i64 i ∧ a' < x ∧ a' ≠ x1 + 10 ∧ Y + 21 ≤ x ∧ m (x1 + 10) = some (.cells ((modelB n v).flatMap cI) false) ∧
      m a' = some (.cells (trips gs' (moreL L i)) false) ∧ Fr (fun j => j < x ∧ j ≠ a') m gs' (moreL L i)) (T - L.length) ?_ ?_ ?_
    · refine ⟨a, gs0, ?_⟩
      have e0 : moreL L 0 = L := by simp [moreL]
      rw [e0]
      simp +contextual (disch := omega) [Nat.add_assoc, Int.add_assoc, if_pos, if_neg, -Int.not_lt, -Int.not_le, -Nat.not_lt, -Nat.not_le, -List.length_flatMap, v10]
      exact ⟨by omega, by omega, hX0.up (.refl _ _) (fun j hj => ⟨hj.2.1, hj.2.2⟩)⟩
    · rintro i e m x hi ⟨a', gs', g0, g3, g11, g12, g14, hax, hne, hxY, y10, ya, yF⟩
      have hlen := hml i
      have hi0 : 0 < (moreL L i).length := by omega
      have hl2 := trips_len yF.len
      have hfs2 := yF.len
      obtain ⟨G, hG1, hG2⟩ := yF.at hi0
      have e00 : (moreL L i)[0] = L[0] := moreL_0 L i hL0 hi0
      have hcut2 : (trips gs' (moreL L i)).take 3 = trip G (moreL L i)[0] := by
        have h := trips_drop (i := 0) hfs2
        rw [Nat.zero_mul, List.drop_zero] at h
        rw [h, List.drop_eq_getElem_cons (by omega : 0 < gs'.length), List.drop_eq_getElem_cons hi0]
        rw [List.getElem?_eq_getElem (by omega)] at hG1
        cases hG1
        rfl
      have hm := hmore i
      rw [← e00] at hm
      have hml' := hml (i + 1)
      generalize moreL L i = E at *
      simp +contextual (disch := omega) [Nat.add_assoc, Int.add_assoc, if_pos, if_neg, -Int.not_lt, -Int.not_le, -Nat.not_lt, -Nat.not_le, -List.length_flatMap, law08_HornSpoilt.b1, g0, g3, g11, g12, g14, ya, hl2, hcut2, trip, Int.tmod_eq_emod_of_nonneg, Int.tdiv_eq_ediv_of_nonneg, -apV_ms, hT2]
      refine Fr.apIn (dl := [E[0]]) (gs := [G]) (by simp +contextual (disch := omega) [Nat.add_assoc, Int.add_assoc, if_pos, if_neg, -Int.not_lt, -Int.not_le, -Nat.not_lt, -Nat.not_le, -List.length_flatMap, ya]) hfs2 rfl rfl (by simp) (by simp; omega) ?_
      intro ws m2 p0 p1 p2
      have q10 : m2 (x1 + 10) = some (.cells ((modelB n v).flatMap cI) false) := by rw [p2 _ (by omega) (by omega)]; simp +contextual (disch := omega) [Nat.add_assoc, Int.add_assoc, if_pos, if_neg, -Int.not_lt, -Int.not_le, -Nat.not_lt, -Nat.not_le, -List.length_flatMap, y10]
      rw [← hm] at p1 ⊢
      simp +contextual (disch := omega) [Nat.add_assoc, Int.add_assoc, if_pos, if_neg, -Int.not_lt, -Int.not_le, -Nat.not_lt, -Nat.not_le, -List.length_flatMap, p0, g0, g3, g11, g12, g14, q10]
      refine ⟨by omega, by omega, gs' ++ [G], p1, ?_⟩
      rw [hm]
      have hGr : Rl (fun j => j < x + 18 ∧ j ≠ x + 13) m2 cA 2 G E[0].frm := (hG2.up (.eq fun j hj => by rw [p2 j hj.2 (by omega), Sto.sne _ _ _ _ (by omega)])).mono (fun j hj => ⟨by omega, by omega⟩)
      exact Fr.app (yF.up (.eq fun j hj => by rw [p2 j hj.2 (by omega), Sto.sne _ _ _ _ (by omega)]) (fun j hj => ⟨by omega, by omega⟩)) ⟨hGr, trivial⟩
    · rintro e m x ⟨a', gs', g0, g3, g11, g12, g14, hax, hne, hxY, y10, ya, yF⟩
      have hlen := hml (T - L.length)
      have hXX : Xc m (.ms a' 0 (moreL L (T - L.length)).length 3) (moreL L (T - L.length)) gs' 0 x := .inr ⟨a', rfl, ya, by omega, hax, yF.up (.refl _ _) (fun j hj => ⟨by omega, hj.1, hj.2⟩)⟩
      obtain ⟨ids, hz, _⟩ := hXX.rc.fz24
      have hz2 := (Bf.mem (m := m) (f := cI) (k := 1) (lo := 0) (x := x) (l := modelB n v) y10 rfl rfl (by omega) (by omega)).fz24
      rw [hMl] at hz2
      have hT' := hT (moreL L (T - L.length)) (modelB n v) (by omega) (fun c hc => by have := hLk c (moreL_mem L _ hL0 c hc); omega) (by omega)
      generalize moreL L (T - L.length) = E at *
      have hln : lenSl (.ms a' 0 E.length 3) = some (L.length + (T - L.length)) := by rw [← hlen]; rfl
      generalize V.ms a' 0 E.length 3 = BL at *
      generalize V.ms (x1 + 10) 0 (varsB n) 1 = BM at *
      simp +contextual (disch := omega) [Nat.add_assoc, Int.add_assoc, if_pos, if_neg, -Int.not_lt, -Int.not_le, -Nat.not_lt, -Nat.not_le, -List.length_flatMap, law08_HornSpoilt.b1, g0, g3, g11, g12, g14, hln, Int.tmod_eq_emod_of_nonneg, Int.tdiv_eq_ediv_of_nonneg, hT2, ansK law08_awake.a, ansK hV, hz, hz2, ansK hT']
  · have hself : L.set q L[q] = L := List.set_getElem_self hqL
    have v10 : m4 (x1 + 10) = some (.cells ((modelB n v).flatMap cI) false) := by rw [v3 _ (by omega), hMM]
    obtain ⟨b, ms, hbm⟩ : ∃ b ms, modelB n v = b :: ms := by
      cases h : modelB n v with
      | nil => rw [h] at hMl; simp at hMl; omega
      | cons b ms => exact ⟨b, ms, rfl⟩
    rw [hbm] at v10 hMl
    simp only [List.length_cons] at hMl
    simp +contextual (disch := omega) [Nat.add_assoc, Int.add_assoc, if_pos, if_neg, -Int.not_lt, -Int.not_le, -Nat.not_lt, -Nat.not_le, -List.length_flatMap, v1, va, hfl, hset, hfl', er, Int.tmod_eq_emod_of_nonneg, Int.tdiv_eq_ediv_of_nonneg, v10]
    generalize hMM' : Sto.set _ (x1 + 10) _ = MM
    have hX := hXc MM (Y + 25) (.ms Y 0 L[q].frm.length 2) L[q] (by omega) (fun j q1 q2 => by rw [← hMM']; simp +contextual (disch := omega) [Nat.add_assoc, Int.add_assoc, if_pos, if_neg, -Int.not_lt, -Int.not_le, -Nat.not_lt, -Nat.not_le, -List.length_flatMap]) (by rw [← hMM', hself]; simp +contextual (disch := omega) [Nat.add_assoc, Int.add_assoc, if_pos, if_neg, -Int.not_lt, -Int.not_le, -Nat.not_lt, -Nat.not_le, -List.length_flatMap]) (hRl _ _ _ (by omega) rfl (by rw [← hMM']; simp +contextual (disch := omega) [Nat.add_assoc, Int.add_assoc, if_pos, if_neg, -Int.not_lt, -Int.not_le, -Nat.not_lt, -Nat.not_le, -List.length_flatMap, v4]))
    rw [hself] at hX
    obtain ⟨ids, hz, _⟩ := hX.rc.fz24
    have hz2 := (Bf.mem (m := MM) (f := cI) (k := 1) (lo := 0) (x := Y + 25) (l := k :: ms) (n := varsB n) (a := x1 + 10) (by rw [← hMM']; simp +contextual (disch := omega) [Nat.add_assoc, Int.add_assoc, if_pos, if_neg, -Int.not_lt, -Int.not_le, -Nat.not_lt, -Nat.not_le, -List.length_flatMap]) rfl (by simp; omega) (by omega) (by omega)).fz24
    generalize V.ms a 0 L.length 3 = BL at *
    generalize V.ms (x1 + 10) 0 (varsB n) 1 = BM at *
    simp +contextual (disch := omega) [Nat.add_assoc, Int.add_assoc, if_pos, if_neg, -Int.not_lt, -Int.not_le, -Nat.not_lt, -Nat.not_le, -List.length_flatMap, ansK law08_awake.a, ansK hV, hz, hz2, ansK (hT L (k :: ms) (by omega) (fun c hc => by have := hLk c hc; omega) (by simp; omega))]
end Pi
