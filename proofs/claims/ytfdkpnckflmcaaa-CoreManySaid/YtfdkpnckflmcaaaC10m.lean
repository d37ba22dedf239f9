/- Laws of layer 10: very many clauses. -/
import Derived.Test.YtfdkpnckflmcaaaC08m
import Derived.Test.YtfdkpnckflmcaaaC10f
import Derived.Test.YtfdkpnckflmcaaaC08j
set_option linter.unusedSimpArgs false
set_option linter.unusedVariables false
namespace Pi
/-- Clauses more, whose lists may lie among those that are there. -/
theorem Xc.apIn {m m' : Sto} {a : Nat} {cl dl : List C} {fs gs : List V} {lo x slot n : Nat} {K : V → Ws → Prop} {xs : List V} (h2 : m a = some (.cells (trips fs cl) false)) (h3 : lo ≤ a) (h4 : a < x) (h5 : Fr (fun j => lo ≤ j ∧ j < x ∧ j ≠ a) m fs cl)
    (hm : ∀ j, lo ≤ j → j < x → m' j = m j) (hx : x ≤ slot) (hxs : xs = trips gs dl) (hn : n = dl.length) (h0 : dl.length ≠ 0) (hg : Fr (fun j => lo ≤ j ∧ j < slot ∧ j ≠ a) m' gs dl) (hl : cl.length + dl.length ≤ 2147483648)
    (hK : ∀ B' ws m2, m'.app ws = m2 → Xc m2 B' (cl ++ dl) (fs ++ gs) lo (slot + 1) → (∀ j, j < lo → m2 j = m' j) → (∀ j, x ≤ j → j < slot → m2 j = m' j) → K B' ws) : opK (apV m' 3 (.ms a 0 cl.length 3) xs n slot) K := by
  subst hn hxs
  have hgl := trips_len hg.len
  have hfl := trips_len h5.len
  have ha : m' a = some (.cells (trips fs cl) false) := by rw [hm a h3 h4, h2]
  have hB : cl.length + dl.length ≤ BIG := by unfold BIG; omega
  rw [apV_ms, if_neg h0, ha, apO_cells, if_pos ⟨rfl, by rw [hfl]; exact Nat.le_refl _, hB⟩, List.take_of_length_le (by rw [hfl]; exact Nat.le_refl _)]
  have far : ∀ j, j ≠ a → j ≠ slot → (m'.app [(a, none), (slot, some (.cells (trips fs cl ++ trips gs dl) false))]) j = m' j := by
    intro j q1 q2
    rw [sapp_cons, sapp_cons, sapp_nil, Sto.sne _ _ _ _ q2, Sto.sne _ _ _ _ q1]
  refine hK _ _ _ rfl (.inr ⟨slot, by simp, by rw [sapp_cons, sapp_cons, sapp_nil, Sto.seq, trips_app h5.len], by omega, by omega, ?_⟩) (fun j hj => far j (by omega) (by omega)) (fun j h1 h2 => far j (by omega) (by omega))
  refine Fr.app ?_ ?_
  · exact h5.up (.eq fun j hj => by rw [far j hj.2.2 (by omega)]; exact hm j hj.1 hj.2.1) (fun j hj => ⟨by omega, by omega, by omega⟩)
  · exact hg.up (.eq fun j hj => far j (by omega) (by omega)) (fun j hj => ⟨hj.1, by omega, by omega⟩)
/-- A list, and its first ones again and again. -/
def againL (b : List C) (i : Nat) : List C := b ++ (List.range i).map fun j => b[j % b.length]?.getD default
theorem againL_len (b : List C) (i : Nat) : (againL b i).length = b.length + i := by simp [againL]
theorem againL_s (b : List C) (i : Nat) (hb : b ≠ []) : ∃ h : i % b.length < (againL b i).length, againL b (i + 1) = againL b i ++ [(againL b i)[i % b.length]] := by
  have h0 : 0 < b.length := List.length_pos_iff.2 hb
  have h1 : i % b.length < b.length := Nat.mod_lt _ h0
  refine ⟨by rw [againL_len]; omega, ?_⟩
  have e : (againL b i)[i % b.length]'(by rw [againL_len]; omega) = b[i % b.length] := by
    unfold againL
    rw [List.getElem_append_left h1]
  rw [e]
  unfold againL
  rw [List.range_succ, List.map_append, ← List.append_assoc]
  simp [h1]
theorem againL_mem (b : List C) (i : Nat) (hb : b ≠ []) : ∀ c ∈ againL b i, c ∈ b := by
  have h0 : 0 < b.length := List.length_pos_iff.2 hb
  intro c hc
  rcases List.mem_append.1 hc with hc | hc
  · exact hc
  · obtain ⟨j, _, rfl⟩ := List.mem_map.1 hc
    have h1 : j % b.length < b.length := Nat.mod_lt _ h0
    rw [List.getElem?_eq_getElem h1]
    exact List.getElem_mem h1
set_option maxHeartbeats 1000000 in
theorem law10_CoreMany.lw {e : Env} {m : Sto} {x : Nat} {c : PCode} {K2 : X → S → Prop} {n many : Nat} (hm : many < 256) (Bs : List C) {B : V} {gs : List V} (hB : Bs ≠ []) (hl : Bs.length ≤ 30)
    (e0 : e 0 = .i .u8 n) (e2 : e 2 = .i .u8 many) (e7 : e 7 = B) (e8 : e 8 = .i .i64 Bs.length) (e9 : e 9 = .i .i64 0) (hX : Xc m B Bs gs 0 x)
    (hK : ∀ e' m' x' B' gs', e' 0 = .i .u8 n → e' 7 = B' → Xc m' B' (againL Bs (55 + many % 8 - Bs.length)) gs' 0 x' → w ctx e' m' x' [] none none K2 c) : w ctx e m x [] none none (BlkK 0 (SeqK ctx c K2)) law10_CoreMany.b1.loop := by
  have h0 : 0 < Bs.length := List.length_pos_iff.2 hB
  refine for_w (fun i e m x => e 0 = .i .u8 n ∧ e 2 = .i .u8 many ∧ e 8 = .i .i64 Bs.length ∧ e 9 = .i .i64 i ∧ ∃ gs, Xc m (e 7) (againL Bs i) gs 0 x) (55 + many % 8 - Bs.length) ?_ ?_ ?_
  · simp +contextual (disch := omega) [Nat.add_assoc, Int.add_assoc, if_pos, if_neg, -Int.not_lt, -Int.not_le, -Nat.not_lt, -Nat.not_le, -List.length_flatMap, e0, e2, e8, e9]
    refine ⟨gs, ?_⟩
    rw [e7]
    simpa [againL] using hX
  · rintro i e m x hi ⟨g0, g2, g8, g9, gs, gX⟩
    obtain ⟨hq, hs⟩ := againL_s Bs i hB
    have hal := againL_len Bs i
    obtain ⟨q, hqe⟩ : ∃ q, q = i % Bs.length := ⟨_, rfl⟩
    have eq : (i : Int) % (Bs.length : Int) = (q : Nat) := by rw [hqe]; rfl
    simp only [← hqe] at hq hs
    generalize hE : e 7 = B at gX
    have gl := gX.rc.len
    rcases gX with ⟨_, h, _⟩ | ⟨a, rfl, h2, h3, h4, h5⟩
    · rw [h] at hal; simp at hal; omega
    · generalize againL Bs i = L at *
      have hfl := trips_len h5.len
      have hfs := h5.len
      obtain ⟨F, hF1, hF2⟩ := h5.at hq
      have hcut : ((trips gs L).drop (q * 3)).take 3 = trip F L[q] := by
        rw [trips_drop hfs, List.drop_eq_getElem_cons (by omega : q < gs.length), List.drop_eq_getElem_cons hq]
        rw [List.getElem?_eq_getElem (by omega)] at hF1
        cases hF1
        rfl
      simp +contextual (disch := omega) [Nat.add_assoc, Int.add_assoc, if_pos, if_neg, -Int.not_lt, -Int.not_le, -Nat.not_lt, -Nat.not_le, -List.length_flatMap, law10_CoreMany.b1, g0, g2, g8, g9, hE, h2, Int.tmod_eq_emod_of_nonneg, eq, hcut, hfl, trip, hal, -apV_ms]
      rw [← hal]
      refine Xc.apIn (dl := [L[q]]) (gs := [F]) h2 h3 h4 h5 (fun j h1 h2 => by rw [Sto.sne _ _ _ _ (by omega)]) (by omega) rfl rfl (by simp) ?_ (by simp; omega) ?_
      · exact ⟨(hF2.up (.eq fun j hj => by rw [Sto.sne _ _ _ _ (by omega)])).mono (fun j hj => ⟨by omega, by omega, by omega⟩), trivial⟩
      · intro B' ws m2 p0 p1 p2 p3
        rw [← hs] at p1
        simp +contextual (disch := omega) [Nat.add_assoc, Int.add_assoc, if_pos, if_neg, -Int.not_lt, -Int.not_le, -Nat.not_lt, -Nat.not_le, -List.length_flatMap, p0, g0, g2, g8, g9, p1.rc.stor, p1.rc.cells]
        exact ⟨_, p1.up (Nat.le_refl _) (by omega) (fun _ _ _ => rfl)⟩
  · rintro e m x ⟨g0, g2, g8, g9, gs, gX⟩
    have hal := againL_len Bs (55 + many % 8 - Bs.length)
    have gl := gX.rc.len
    generalize hE : e 7 = B at gX gl
    rw [hal] at gl
    simp +contextual (disch := omega) [Nat.add_assoc, Int.add_assoc, if_pos, if_neg, -Int.not_lt, -Int.not_le, -Nat.not_lt, -Nat.not_le, -List.length_flatMap, law10_CoreMany.b1, g0, g2, g8, g9, hE, gl, Int.tmod_eq_emod_of_nonneg]
    exact hK _ _ _ B gs (by simp +contextual (disch := omega) [Nat.add_assoc, Int.add_assoc, if_pos, if_neg, -Int.not_lt, -Int.not_le, -Nat.not_lt, -Nat.not_le, -List.length_flatMap, g0]) (by simp +contextual (disch := omega) [Nat.add_assoc, Int.add_assoc, if_pos, if_neg, -Int.not_lt, -Int.not_le, -Nat.not_lt, -Nat.not_le, -List.length_flatMap, hE]) (gX.up (Nat.le_refl _) (by omega) (fun _ _ _ => rfl))
set_option maxHeartbeats 1000000 in
theorem law10_CoreMany.a (n : Nat) (hn : n < 256) (l : List Nat) (hb : Byt l) (hl : l.length ≤ 9223372036854775807) (many : Nat) (hm : many < 256) : Ans ctx law10_CoreMany.n [.i .u8 n, sV cU l, .i .u8 many] (.b true) := by
  refine ans law10_CoreMany.f ?_
  have hv := varsB_bd n
  simp +contextual (disch := omega) [Nat.add_assoc, Int.add_assoc, if_pos, if_neg, -Int.not_lt, -Int.not_le, -Nat.not_lt, -Nat.not_le, -List.length_flatMap, law10_CoreMany.c]
  rw [CallX_op (by rfl)]
  refine openg_w rfl rfl (.inl rfl) ?_
  have hfo : ctx.frz law08_Made.n = false := rfl
  rw [hfo]
  refine law08_Made.w n hn l hb hl ?_
  intro B gs m1 x1 hx1 hm1 hX1
  have h30 := made_len n l
  have h6 := made_six n l
  generalize madeC n l = M at *
  obtain ⟨T, hT⟩ : ∃ T : Nat, T = 55 + many % 8 := ⟨_, rfl⟩
  have hfin : ∀ (Bs : List C), Bs ≠ [] → Bs.length ≤ 30 → (∀ c ∈ Bs, c.frm.length ≤ 9223372036854775807) → Ans ctx law10_same.n [.i .i64 (varsB n : Nat), sV cC (againL Bs (55 + many % 8 - Bs.length)), .sl [.i .i64 (T - 1)] 1] (.b true) := by
    intro Bs q1 q2 q3
    exact law10_same.a (varsB n) (againL Bs (55 + many % 8 - Bs.length)) [(T : Int) - 1] (by rw [againL_len]; omega) (fun c hc => q3 c (againL_mem _ _ q1 c hc)) (by simp)
  cases M with
  | nil =>
    simp +contextual (disch := omega) [Nat.add_assoc, Int.add_assoc, if_pos, if_neg, -Int.not_lt, -Int.not_le, -Nat.not_lt, -Nat.not_le, -List.length_flatMap, hX1.rc.len]
    have h0 : Xc ((m1.set (x1 + 5) (some (.cells (cA ⟨0, 0⟩) false))).set (x1 + 8) (some (.cells (trips [.ms (x1 + 5) 0 1 2] [(⟨[⟨0, 0⟩], ⟨0, 1⟩⟩ : C)]) false))) (.ms (x1 + 8) 0 1 3) [(⟨[⟨0, 0⟩], ⟨0, 1⟩⟩ : C)] [.ms (x1 + 5) 0 1 2] 0 (x1 + 14) := by
      refine .inr ⟨x1 + 8, rfl, by rw [Sto.seq], by omega, by omega, ?_, trivial⟩
      exact (Rl.Bf (Bf.mem (f := cA) (k := 2) (lo := x1 + 5) (x := x1 + 6) (l := [⟨0, 0⟩]) (cs := cA ⟨0, 0⟩) (by simp +contextual (disch := omega) [Nat.add_assoc, Int.add_assoc, if_pos, if_neg, -Int.not_lt, -Int.not_le, -Nat.not_lt, -Nat.not_le, -List.length_flatMap]) (by simp) rfl (by omega) (by omega))).mono (fun j hj => ⟨by omega, by omega, by omega⟩)
    have hf := hfin [⟨[⟨0, 0⟩], ⟨0, 1⟩⟩] (by simp) (by simp) (by simp)
    refine law10_CoreMany.lw (n := n) hm [⟨[⟨0, 0⟩], ⟨0, 1⟩⟩] (by simp) (by simp) (by simp +contextual (disch := omega) [Nat.add_assoc, Int.add_assoc, if_pos, if_neg, -Int.not_lt, -Int.not_le, -Nat.not_lt, -Nat.not_le, -List.length_flatMap]) (by simp +contextual (disch := omega) [Nat.add_assoc, Int.add_assoc, if_pos, if_neg, -Int.not_lt, -Int.not_le, -Nat.not_lt, -Nat.not_le, -List.length_flatMap]) (by simp +contextual (disch := omega) [Nat.add_assoc, Int.add_assoc, if_pos, if_neg, -Int.not_lt, -Int.not_le, -Nat.not_lt, -Nat.not_le, -List.length_flatMap]) (by simp +contextual (disch := omega) [Nat.add_assoc, Int.add_assoc, if_pos, if_neg, -Int.not_lt, -Int.not_le, -Nat.not_lt, -Nat.not_le, -List.length_flatMap]) (by simp +contextual (disch := omega) [Nat.add_assoc, Int.add_assoc, if_pos, if_neg, -Int.not_lt, -Int.not_le, -Nat.not_lt, -Nat.not_le, -List.length_flatMap]) h0 ?_
    intro e' m' x' B' gs' g0 g7 gX
    obtain ⟨ids, hz, _⟩ := (gX.up (m' := m'.set (x' + 7) (some (.cells [.i .i64 (T - 1)] false))) (Nat.le_refl _) (Nat.le_refl _) (fun j h1 h2 => by rw [Sto.sne _ _ _ _ (by omega)])).rc.fz24
    have gl : lenSl B' = some T := by
      rw [gX.rc.len, againL_len]
      congr 1
      simp at h30 ⊢
      omega
    generalize againL _ _ = LL at hf hz
    simp +contextual (disch := omega) [Nat.add_assoc, Int.add_assoc, if_pos, if_neg, -Int.not_lt, -Int.not_le, -Nat.not_lt, -Nat.not_le, -List.length_flatMap, g0, g7, hz, gl, ansK (law08_Vars.a n hn), ansK hf]
  | cons c M =>
    simp +contextual (disch := omega) [Nat.add_assoc, Int.add_assoc, if_pos, if_neg, -Int.not_lt, -Int.not_le, -Nat.not_lt, -Nat.not_le, -List.length_flatMap, hX1.rc.len]
    have hf := hfin (c :: M) (by simp) h30 h6
    refine law10_CoreMany.lw (n := n) hm (c :: M) (by simp) h30 (by simp +contextual (disch := omega) [Nat.add_assoc, Int.add_assoc, if_pos, if_neg, -Int.not_lt, -Int.not_le, -Nat.not_lt, -Nat.not_le, -List.length_flatMap]) (by simp +contextual (disch := omega) [Nat.add_assoc, Int.add_assoc, if_pos, if_neg, -Int.not_lt, -Int.not_le, -Nat.not_lt, -Nat.not_le, -List.length_flatMap]) (by simp +contextual (disch := omega) [Nat.add_assoc, Int.add_assoc, if_pos, if_neg, -Int.not_lt, -Int.not_le, -Nat.not_lt, -Nat.not_le, -List.length_flatMap]) (by simp +contextual (disch := omega) [Nat.add_assoc, Int.add_assoc, if_pos, if_neg, -Int.not_lt, -Int.not_le, -Nat.not_lt, -Nat.not_le, -List.length_flatMap]) (by simp +contextual (disch := omega) [Nat.add_assoc, Int.add_assoc, if_pos, if_neg, -Int.not_lt, -Int.not_le, -Nat.not_lt, -Nat.not_le, -List.length_flatMap]) (hX1.up (Nat.zero_le _) (by omega) (fun _ _ _ => rfl)) ?_
    intro e' m' x' B' gs' g0 g7 gX
    obtain ⟨ids, hz, _⟩ := (gX.up (m' := m'.set (x' + 7) (some (.cells [.i .i64 (T - 1)] false))) (Nat.le_refl _) (Nat.le_refl _) (fun j h1 h2 => by rw [Sto.sne _ _ _ _ (by omega)])).rc.fz24
    have gl : lenSl B' = some T := by
      rw [gX.rc.len, againL_len]
      congr 1
      simp at h30 ⊢
      omega
    generalize againL _ _ = LL at hf hz
    simp +contextual (disch := omega) [Nat.add_assoc, Int.add_assoc, if_pos, if_neg, -Int.not_lt, -Int.not_le, -Nat.not_lt, -Nat.not_le, -List.length_flatMap, g0, g7, hz, gl, ansK (law08_Vars.a n hn), ansK hf]
end Pi
