/- Laws of layer 8: clauses with one thing spoilt. -/
import Derived.Test.YtfdkpnckflmcaaaC08m
import Derived.Test.YtfdkpnckflmcaaaC08j
set_option linter.unusedSimpArgs false
set_option linter.unusedVariables false
namespace Pi
theorem law08_Model.w {m0 : Sto} {x0 : Nat} {K : CR → Sto → Nat → Prop} (n : Nat) (hn : n < 256) (l : List Nat) (hb : Byt l) (hl : l.length ≤ 9223372036854775807)
    (hK : ∀ B m' x', x0 ≤ x' → (∀ j, j < x0 → m' j = m0 j) → B = .ms (x0 + 2) 0 (varsB n) 1 → m' (x0 + 2) = some (.cells ((modelB n l).flatMap cI) false) → x0 + 3 ≤ x' → K (.ret B) m' x') :
    w ctx (envOf [.i .u8 n, sV cU l]) m0 x0 [] none none (RetG ctx law08_Model.c.rs K) law08_Model.c.code := by
  have hv : 1 ≤ varsB n ∧ varsB n ≤ 8 := by unfold varsB; omega
  simp +contextual (disch := omega) [Nat.add_assoc, Int.add_assoc, if_pos, if_neg, -Int.not_lt, -Int.not_le, -Nat.not_lt, -Nat.not_le, -List.length_flatMap, law08_Model.c, ansK (law08_Vars.a n hn)]
  refine for_w (fun i e m x => e 1 = sV cU l ∧ e 5 = .ms (x0 + 2) 0 (varsB n) 1 ∧ e 6 = .i .i64 i ∧ x0 + 3 ≤ x ∧ m (x0 + 2) = some (.cells ((modelI l (varsB n) i).flatMap cI) false) ∧ (∀ j, j < x0 → m j = m0 j)) (min l.length (varsB n)) ?_ ?_ ?_
  · have e0 : (modelI l (varsB n) 0).flatMap cI = zeros [V.i .i64 0] (varsB n) := by
      generalize varsB n = v
      unfold modelI
      simp only [Nat.not_lt_zero, if_false]
      induction v with
      | zero => rfl
      | succ v ih => rw [List.range_succ_eq_map, List.map_cons, List.flatMap_cons, List.map_map, zeros, ← ih]; rfl
    simp +contextual (disch := omega) [Nat.add_assoc, Int.add_assoc, if_pos, if_neg, -Int.not_lt, -Int.not_le, -Nat.not_lt, -Nat.not_le, -List.length_flatMap, e0]
  · rintro i e m x hi ⟨g1, g2, g3, g4, g5, g6⟩
    have h1 : i < l.length := by omega
    have h2 : i < varsB n := by omega
    have e1 := modelI_s h1 h2
    have hbi := hb.at h1
    have hlen : (modelI l (varsB n) i).length = varsB n := by simp [modelI]
    have h12 : (l[i] : Int) % 12 = ((l[i] % 12 : Nat) : Int) := rfl
    simp +contextual (disch := omega) [Nat.add_assoc, Int.add_assoc, if_pos, if_neg, -Int.not_lt, -Int.not_le, -Nat.not_lt, -Nat.not_le, -List.length_flatMap, law08_Model.b1, g1, g2, g3, g5, h1, h2, Int.tmod_eq_emod_of_nonneg, hlen]
    rw [flatI_set (by omega), e1, h12]
    exact ⟨by omega, rfl, g6⟩
  · rintro e m x ⟨g1, g2, g3, g4, g5, g6⟩
    rw [modelI_e] at g5
    by_cases h : l.length < varsB n
    · have e3 : min l.length (varsB n) = l.length := by omega
      rw [e3] at g3
      simp +contextual (disch := omega) [Nat.add_assoc, Int.add_assoc, if_pos, if_neg, -Int.not_lt, -Int.not_le, -Nat.not_lt, -Nat.not_le, -List.length_flatMap, law08_Model.b1, g1, g2, g3]
      exact hK _ _ _ (by omega) g6 rfl g5 (by omega)
    · have e3 : min l.length (varsB n) = varsB n := by omega
      rw [e3] at g3
      by_cases h4 : varsB n < l.length
      · simp +contextual (disch := omega) [Nat.add_assoc, Int.add_assoc, if_pos, if_neg, -Int.not_lt, -Int.not_le, -Nat.not_lt, -Nat.not_le, -List.length_flatMap, law08_Model.b1, g1, g2, g3, h4]
        exact hK _ _ _ (by omega) g6 rfl g5 (by omega)
      · simp +contextual (disch := omega) [Nat.add_assoc, Int.add_assoc, if_pos, if_neg, -Int.not_lt, -Int.not_le, -Nat.not_lt, -Nat.not_le, -List.length_flatMap, law08_Model.b1, g1, g2, g3, h4]
        exact hK _ _ _ (by omega) g6 rfl g5 (by omega)
theorem trips_var : ∀ {fs : List V} {cl : List C} {i : Nat} {k : Int}, fs.length = cl.length → (hi : i < cl.length) → (trips fs cl).take (i * 3 + 1) ++ .i .i64 k :: (trips fs cl).drop (i * 3 + 2) = trips fs (cl.set i ⟨cl[i].frm, ⟨k, cl[i].to.off⟩⟩)
  | [], [], i, _, _, hi => by simp at hi
  | G :: fs, c :: cl, 0, F, h, hi => by simp [trips, trip]
  | G :: fs, c :: cl, i + 1, k, h, hi => by
    have ih := trips_var (i := i) (k := k) (fs := fs) (cl := cl) (by simpa using h) (by simpa using hi)
    have e1 : (i + 1) * 3 + 1 = i * 3 + 1 + 1 + 1 + 1 := by omega
    have e2 : (i + 1) * 3 + 2 = i * 3 + 2 + 1 + 1 + 1 := by omega
    rw [List.set_cons_succ, trips, trips, e1, e2]
    simp only [trip, List.cons_append, List.nil_append, List.take_succ_cons, List.drop_succ_cons, ih, List.getElem_cons_succ]
  | [], _ :: _, _, _, h, _ => by simp at h
  | _ :: _, [], _, _, h, _ => by simp at h
theorem trips_off : ∀ {fs : List V} {cl : List C} {i : Nat} {k : Int}, fs.length = cl.length → (hi : i < cl.length) → (trips fs cl).take (i * 3 + 2) ++ .i .i64 k :: (trips fs cl).drop (i * 3 + 3) = trips fs (cl.set i ⟨cl[i].frm, ⟨cl[i].to.var, k⟩⟩)
  | [], [], i, _, _, hi => by simp at hi
  | G :: fs, c :: cl, 0, F, h, hi => by simp [trips, trip]
  | G :: fs, c :: cl, i + 1, k, h, hi => by
    have ih := trips_off (i := i) (k := k) (fs := fs) (cl := cl) (by simpa using h) (by simpa using hi)
    have e1 : (i + 1) * 3 + 2 = i * 3 + 2 + 1 + 1 + 1 := by omega
    have e2 : (i + 1) * 3 + 3 = i * 3 + 3 + 1 + 1 + 1 := by omega
    rw [List.set_cons_succ, trips, trips, e1, e2]
    simp only [trip, List.cons_append, List.nil_append, List.take_succ_cons, List.drop_succ_cons, ih, List.getElem_cons_succ]
  | [], _ :: _, _, _, h, _ => by simp at h
  | _ :: _, [], _, _, h, _ => by simp at h
theorem trips_to : ∀ {fs : List V} {cl dl : List C}, cl.map C.to = dl.map C.to → trips fs cl = trips fs dl
  | [], [], [], _ => rfl
  | [], _ :: _, _ :: _, _ => rfl
  | _ :: _, [], [], _ => rfl
  | F :: fs, c :: cl, d :: dl, h => by
    simp only [List.map_cons, List.cons.injEq] at h
    rw [trips, trips, trips_to h.2, trip, trip, h.1]
  | _, [], _ :: _, h => by simp at h
  | _, _ :: _, [], h => by simp at h
theorem Fr.put {A : Nat → Prop} {m : Sto} : ∀ {fs : List V} {cl : List C} {i : Nat} {F : V} {c : C}, Fr A m fs cl → Rl A m cA 2 F c.frm → Fr A m (fs.set i F) (cl.set i c)
  | [], [], i, _, _, h, _ => h
  | G :: fs, d :: cl, 0, F, c, h, k => ⟨k, h.2⟩
  | G :: fs, d :: cl, i + 1, F, c, h, k => ⟨h.1, Fr.put (i := i) h.2 k⟩
  | [], _ :: _, _, _, _, h, _ => h.elim
  | _ :: _, [], _, _, _, h, _ => h.elim
theorem Bf.new1 {α : Type} {f : α → List V} {k : Nat} [h : Cel f k] {m' : Sto} (l : List α) {slot n : Nat} {K : V → Ws → Prop} {xs : List V} (hne : l ≠ []) (hxs : xs = l.flatMap f) (hn : n = l.length) (hl : l.length ≤ 2147483648)
    (hK : ∀ ws m2, m'.app ws = m2 → m2 slot = some (.cells xs false) → (∀ j, j ≠ slot → m2 j = m' j) → K (.ms slot 0 l.length k) ws) : opK (apV m' k .ns xs n slot) K := by
  subst hn hxs
  have hB : l.length ≤ BIG := by unfold BIG; omega
  have h0 : l.length ≠ 0 := by simpa using hne
  rw [apV_ns, if_neg h0, if_pos hB]
  refine hK _ _ rfl (by rw [sapp_cons, sapp_nil, Sto.seq]) (fun j hj => ?_)
  rw [sapp_cons, sapp_nil, Sto.sne _ _ _ _ (by simpa using hj)]
theorem zerosA (N : Nat) : zeros [V.i .i64 0, .i .i64 0] N = (List.replicate N (⟨0, 0⟩ : A)).flatMap cA := by
  induction N with
  | zero => rfl
  | succ N ih => rw [List.replicate_succ, List.flatMap_cons, zeros, ih]; rfl
/-- A list, and its first one again and again. -/
def moreL (b : List C) (i : Nat) : List C := b ++ List.replicate i (b[0]?.getD default)
theorem moreL_len (b : List C) (i : Nat) : (moreL b i).length = b.length + i := by simp [moreL]
theorem moreL_s (b : List C) (i : Nat) (hb : 0 < b.length) : moreL b (i + 1) = moreL b i ++ [b[0]] := by
  unfold moreL
  rw [List.replicate_succ', ← List.append_assoc, List.getElem?_eq_getElem hb]
  rfl
theorem moreL_mem (b : List C) (i : Nat) (hb : 0 < b.length) : ∀ c ∈ moreL b i, c ∈ b := by
  intro c hc
  rcases List.mem_append.1 hc with hc | hc
  · exact hc
  · rw [(List.mem_replicate.1 hc).2, List.getElem?_eq_getElem hb]
    exact List.getElem_mem hb
theorem moreL_0 (b : List C) (i : Nat) (hb : 0 < b.length) (h : 0 < (moreL b i).length) : (moreL b i)[0] = b[0] := by
  simp only [moreL]
  rw [List.getElem_append_left hb]
/-- Clauses more, where all else is known to stay. -/
theorem Fr.apIn {m' : Sto} {a : Nat} {cl dl : List C} {fs gs : List V} {slot n : Nat} {K : V → Ws → Prop} {xs : List V} (ha : m' a = some (.cells (trips fs cl) false)) (hf : fs.length = cl.length) (hxs : xs = trips gs dl) (hn : n = dl.length) (h0 : dl.length ≠ 0) (hl : cl.length + dl.length ≤ 2147483648)
    (hK : ∀ ws m2, m'.app ws = m2 → m2 slot = some (.cells (trips (fs ++ gs) (cl ++ dl)) false) → (∀ j, j ≠ a → j ≠ slot → m2 j = m' j) → K (.ms slot 0 (cl ++ dl).length 3) ws) : opK (apV m' 3 (.ms a 0 cl.length 3) xs n slot) K := by
  subst hn hxs
  have hfl := trips_len hf
  have hB : cl.length + dl.length ≤ BIG := by unfold BIG; omega
  rw [apV_ms, if_neg h0, ha, apO_cells, if_pos ⟨rfl, by rw [hfl]; exact Nat.le_refl _, hB⟩, List.take_of_length_le (by rw [hfl]; exact Nat.le_refl _)]
  rw [← List.length_append]
  refine hK _ _ rfl (by rw [sapp_cons, sapp_cons, sapp_nil, Sto.seq, trips_app hf]) (fun j q1 q2 => ?_)
  rw [sapp_cons, sapp_cons, sapp_nil, Sto.sne _ _ _ _ q2, Sto.sne _ _ _ _ q1]
end Pi
