/- Contracts: arenas (layer 4): sizes as the document has them. -/
import Derived.Test.YtdeichdplcafcaaC04d
set_option linter.unusedSimpArgs false
set_option linter.unusedVariables false
namespace Pi
theorem Eg.apx {α : Type} {f : α → List V} {k : Nat} [h : Cel f k] {m m' : Sto} {B : V} {l : List α} (l' : List α) {lo x slot n : Nat} {K : V → Ws → Prop} {xs : List V} (hB : Eg m B f k l lo x) (hm : ∀ j, j ∈ refOf B → m' j = m j) (hx : x ≤ slot) (hxs : xs = l'.flatMap f) (hn : n = l'.length) (h0 : l'.length ≠ 0) (hl : l.length + l'.length ≤ 2147483648)
    (hK : ∀ ws m2, m'.app ws = m2 → m2 slot = some (.cells ((l ++ l').flatMap f) false) → (∀ j, j ∉ refOf B → j ≠ slot → m2 j = m' j) → K (.ms slot 0 (l.length + l'.length) k) ws) : opK (apV m' k B xs n slot) K := by
  subst hn hxs
  rcases hB with ⟨rfl, rfl⟩ | ⟨a, rfl, h1, h2, h3⟩
  · have hB : l'.length ≤ BIG := by unfold BIG; simp at hl; omega
    rw [apV_ns, if_neg h0, if_pos hB]
    have e : .ms slot 0 l'.length k = V.ms slot 0 (([] : List α).length + l'.length) k := by simp
    rw [e]
    refine hK _ _ rfl (by rw [sapp_cons, sapp_nil, Sto.seq]; rfl) (fun j _ hj => ?_)
    rw [sapp_cons, sapp_nil, Sto.sne _ _ _ _ hj]
  · have hB : l.length + l'.length ≤ BIG := by unfold BIG; omega
    have ha : m' a = some (.cells (l.flatMap f) false) := by rw [hm a (by simp [refOf]), h1]
    have hf := flat_ln (f := f) (k := k) l
    rw [apV_ms, if_neg h0, ha, apO_cells, if_pos ⟨rfl, by rw [hf]; exact Nat.le_refl _, hB⟩, List.take_of_length_le (by rw [hf]; exact Nat.le_refl _)]
    refine hK _ _ rfl (by rw [sapp_cons, sapp_cons, sapp_nil, Sto.seq, List.flatMap_append]) (fun j q1 q2 => ?_)
    rw [sapp_cons, sapp_cons, sapp_nil, Sto.sne _ _ _ _ q2, Sto.sne _ _ _ _ (fun h => q1 (by simp [refOf, h]))]
theorem Eg.apy {α : Type} {f : α → List V} {k : Nat} [h : Cel f k] {m m' : Sto} {B : V} {l : List α} (l' : List α) {lo x slot n : Nat} {K : V → Ws → Prop} {xs : List V} (hB : Eg m B f k l lo x) (hm : ∀ j, j ∈ refOf B → m' j = m j) (hx : x ≤ slot) (hxs : xs = l'.flatMap f) (hn : n = l'.length) (h0 : l'.length ≠ 0) (hl : l.length + l'.length ≤ 2147483648)
    (hK : ∀ ws m2, m'.app ws = m2 → m2 slot = some (.cells ((l ++ l').flatMap f) false) → (∀ j, j ∉ refOf B → j ≠ slot → m2 j = m' j) → (∀ j, j ∈ refOf B → j ≠ slot → m2 j = none) → K (.ms slot 0 (l.length + l'.length) k) ws) : opK (apV m' k B xs n slot) K := by
  subst hn hxs
  rcases hB with ⟨rfl, rfl⟩ | ⟨a, rfl, h1, h2, h3⟩
  · have hB : l'.length ≤ BIG := by unfold BIG; simp at hl; omega
    rw [apV_ns, if_neg h0, if_pos hB]
    have e : .ms slot 0 l'.length k = V.ms slot 0 (([] : List α).length + l'.length) k := by simp
    rw [e]
    refine hK _ _ rfl (by rw [sapp_cons, sapp_nil, Sto.seq]; rfl) (fun j _ hj => ?_) (fun j h => by simp [refOf] at h)
    rw [sapp_cons, sapp_nil, Sto.sne _ _ _ _ hj]
  · have hB : l.length + l'.length ≤ BIG := by unfold BIG; omega
    have ha : m' a = some (.cells (l.flatMap f) false) := by rw [hm a (by simp [refOf]), h1]
    have hf := flat_ln (f := f) (k := k) l
    rw [apV_ms, if_neg h0, ha, apO_cells, if_pos ⟨rfl, by rw [hf]; exact Nat.le_refl _, hB⟩, List.take_of_length_le (by rw [hf]; exact Nat.le_refl _)]
    refine hK _ _ rfl (by rw [sapp_cons, sapp_cons, sapp_nil, Sto.seq, List.flatMap_append]) (fun j q1 q2 => ?_) (fun j q1 q2 => ?_)
    · rw [sapp_cons, sapp_cons, sapp_nil, Sto.sne _ _ _ _ q2, Sto.sne _ _ _ _ (fun h => q1 (by simp [refOf, h]))]
    · have e : j = a := by simpa [refOf] using q1
      subst e
      rw [sapp_cons, sapp_cons, sapp_nil, Sto.sne _ _ _ _ q2, Sto.seq]
theorem Eg.mv {α : Type} {f : α → List V} {k : Nat} {m m' : Sto} {B : V} {l : List α} {lo x x' : Nat} (h : Eg m B f k l lo x) (hx : x ≤ x') (hm : ∀ j, j ∈ refOf B → m' j = m j) : Eg m' B f k l lo x' := by
  rcases h with h | ⟨a, rfl, h1, h2, h3⟩
  · exact .inl h
  · exact .inr ⟨a, rfl, by rw [hm a (by simp [refOf]), h1], h2, by omega⟩
theorem Eg.ref {α : Type} {f : α → List V} {k : Nat} {m : Sto} {B : V} {l : List α} {lo x j : Nat} (h : Eg m B f k l lo x) (hj : j ∈ refOf B) : lo ≤ j ∧ j < x := by
  rcases h with ⟨rfl, _⟩ | ⟨a, rfl, _, h2, h3⟩
  · simp [refOf] at hj
  · simp [refOf] at hj; omega
theorem flatI_at (l : List Int) (p : Nat) (h : p < l.length) : ∀ q, (l.flatMap cI)[p]'q = .i .i64 l[p] := fun q => flatI_get q
set_option maxRecDepth 5000 in
set_option maxHeartbeats 1000000 in
theorem ref04_measure.a (l : List N) (hl : l.length ≤ 1000) (hf : fitAll l 0 = true) : Ans ctx ref04_measure.n [.ag [sV cN l]] (.tu [sV cI ((szT l l.length).map A.var), sV cI ((szT l l.length).map A.off)]) := by
  refine ans ref04_measure.f ?_
  simp +contextual (disch := omega) [Nat.add_assoc, Int.add_assoc, if_pos, if_neg, -Int.not_lt, -Int.not_le, -Nat.not_lt, -Nat.not_le, -List.length_flatMap, ref04_measure.c]
  refine for_w (fun i e m x => e 1 = .p 0 0 ∧ e 6 = .i .i64 i ∧ 1 ≤ x ∧ m 0 = some (.cells [sV cN l] false) ∧ Eg m (e 4) cI 1 ((szT l i).map A.var) 1 x ∧ Eg m (e 5) cI 1 ((szT l i).map A.off) 1 x ∧ ∀ j, j ∈ refOf (e 4) → j ∉ refOf (e 5)) l.length ?_ ?_ ?_
  · simp +contextual (disch := omega) [Nat.add_assoc, Int.add_assoc, if_pos, if_neg, -Int.not_lt, -Int.not_le, -Nat.not_lt, -Nat.not_le, -List.length_flatMap]
    exact ⟨Eg.nil, Eg.nil⟩
  · rintro i e m x hi ⟨g1, g6, gx, g0, gB, gC, gd⟩
    have hfi : fitN l[i] (i : Nat) = true := by have := fitAll_get hf hi; simpa using this
    have hk := ref04_kids.a l[i].kind
    obtain ⟨z1, z2⟩ := szT_ok l i (by omega)
    have hst := gB.stor
    have hsc := gC.stor
    have hz : szT l (i + 1) = szT l i ++ [szOne (szT l i) l[i]] := by rw [szT, List.getElem?_eq_getElem hi]
    rw [hz]
    obtain ⟨o, ho⟩ : ∃ o, o = szOne (szT l i) l[i] := ⟨_, rfl⟩
    rw [← ho]
    unfold szOne at ho
    generalize szT l i = Z at *
    have l1 : (Z.map A.var).length = i := by simp [z1]
    have l2 : (Z.map A.off).length = i := by simp [z1]
    generalize hB : e 4 = B at *
    generalize hC : e 5 = C at *
    rcases fit_kids hfi with ⟨k0, ka, kb⟩ | ⟨k0, ⟨a, ka, ha⟩, kb⟩ | ⟨k0, ⟨a, ka, ha⟩, ⟨b, kb, hb⟩⟩
    · rw [k0] at hk
      have ho2 : o = ⟨1, 1⟩ := by rw [ho]; simp [k0]
      subst ho2
      simp +contextual (disch := omega) [Nat.add_assoc, Int.add_assoc, if_pos, if_neg, -Int.not_lt, -Int.not_le, -Nat.not_lt, -Nat.not_le, -List.length_flatMap, ref04_measure.b1, g1, g6, g0, hi, ansK hk, hB, hC, hst.1, hst.2.1, -apV_ns]
      refine gB.apx [1] (fun j h => by have := gB.ref h; simp +contextual (disch := omega) [Nat.add_assoc, Int.add_assoc, if_pos, if_neg, -Int.not_lt, -Int.not_le, -Nat.not_lt, -Nat.not_le, -List.length_flatMap]) (by omega) rfl rfl (by simp) (by simp [z1]; omega) ?_
      intro ws2 m2 u1 u2 u3
      have hr2 : ∀ j, j ∈ refOf C → m2 j = m j := fun j h => by
        have := gC.ref h
        rw [u3 j (fun h' => gd j h' h) (by omega)]
        simp +contextual (disch := omega) [Nat.add_assoc, Int.add_assoc, if_pos, if_neg, -Int.not_lt, -Int.not_le, -Nat.not_lt, -Nat.not_le, -List.length_flatMap]
      have r0 : m2 0 = some (.cells [sV cN l] false) := by rw [u3 0 (fun h => by have := gB.ref h; omega) (by omega)]; simp +contextual (disch := omega) [Nat.add_assoc, Int.add_assoc, if_pos, if_neg, -Int.not_lt, -Int.not_le, -Nat.not_lt, -Nat.not_le, -List.length_flatMap, g0]
      simp +contextual (disch := omega) [Nat.add_assoc, Int.add_assoc, if_pos, if_neg, -Int.not_lt, -Int.not_le, -Nat.not_lt, -Nat.not_le, -List.length_flatMap, u1, hC, hsc.1, hsc.2.1, -apV_ns]
      refine gC.apx [1] (fun j h => by have := gC.ref h; simp +contextual (disch := omega) [Nat.add_assoc, Int.add_assoc, if_pos, if_neg, -Int.not_lt, -Int.not_le, -Nat.not_lt, -Nat.not_le, -List.length_flatMap, hr2 j h]) (by omega) rfl rfl (by simp) (by simp [z1]; omega) ?_
      intro ws3 m3 v1 v2 v3
      have r1 : m3 0 = some (.cells [sV cN l] false) := by rw [v3 0 (fun h => by have := gC.ref h; omega) (by omega)]; simp +contextual (disch := omega) [Nat.add_assoc, Int.add_assoc, if_pos, if_neg, -Int.not_lt, -Int.not_le, -Nat.not_lt, -Nat.not_le, -List.length_flatMap, r0]
      simp +contextual (disch := omega) [Nat.add_assoc, Int.add_assoc, if_pos, if_neg, -Int.not_lt, -Int.not_le, -Nat.not_lt, -Nat.not_le, -List.length_flatMap, v1, g1, g6, r1]
      refine ⟨.inr ⟨_, by simp; rfl, ?_, by omega, by omega⟩, .inr ⟨_, by simp; rfl, ?_, by omega, by omega⟩⟩
      · rw [v3 _ (fun h => by have := gC.ref h; omega) (by omega)]
        simp +contextual (disch := omega) [Nat.add_assoc, Int.add_assoc, if_pos, if_neg, -Int.not_lt, -Int.not_le, -Nat.not_lt, -Nat.not_le, -List.length_flatMap, u2]
      · rw [v2]
    · rw [k0] at hk
      have haz : a < Z.length := by omega
      have zb := z2 _ (List.getElem_mem haz)
      obtain ⟨p, hpB, hp1, hp2, hp3⟩ := gB.at (by intro h; rw [h] at l1; simp at l1; omega)
      obtain ⟨q, hqC, hq1, hq2, hq3⟩ := gC.at (by intro h; rw [h] at l2; simp at l2; omega)
      have t1 := flatI_at (Z.map A.var) a (by omega)
      have t2 := flatI_at (Z.map A.off) a (by omega)
      have n1 : ((Z.map A.var).flatMap cI).length = i := by rw [flatI_len, l1]
      have n2 : ((Z.map A.off).flatMap cI).length = i := by rw [flatI_len, l2]
      rw [List.getElem_map] at t1 t2
      rw [l1] at hpB
      rw [l2] at hqC
      subst hpB hqC
      have hta : l[i].a.toNat = a := by omega
      have hgd : Z.getD a ⟨0, 0⟩ = Z[a] := by simp [haz]
      simp only [k0, hta, hgd] at ho
      generalize Z[a] = w at *
      obtain ⟨wv, wo⟩ := w
      simp only at zb t1 t2 ho
      have ho2 : o = ⟨1 + wv, min (1 + wo) 1000⟩ := by rw [ho]; simp; omega
      subst ho2
      have hmx : max 1 (1 + wv) = 1 + wv := by omega
      simp +contextual (disch := omega) [Nat.add_assoc, Int.add_assoc, if_pos, if_neg, -Int.not_lt, -Int.not_le, -Nat.not_lt, -Nat.not_le, -List.length_flatMap, ref04_measure.b1, g1, g6, g0, hi, ansK hk, hB, hC, ka, hp1, hq1, ha, n1, n2, t1, t2, hmx, -apV_ms]
      refine gB.apx [1 + wv] (fun j h => by have := gB.ref h; simp +contextual (disch := omega) [Nat.add_assoc, Int.add_assoc, if_pos, if_neg, -Int.not_lt, -Int.not_le, -Nat.not_lt, -Nat.not_le, -List.length_flatMap]) (by omega) rfl rfl (by simp) (by simp [z1]; omega) ?_
      intro ws2 m2 u1 u2 u3
      have hr2 : ∀ j, j ∈ refOf (V.ms q 0 i 1) → m2 j = m j := fun j h => by
        have := gC.ref h
        rw [u3 j (fun h' => gd j h' h) (by omega)]
        simp +contextual (disch := omega) [Nat.add_assoc, Int.add_assoc, if_pos, if_neg, -Int.not_lt, -Int.not_le, -Nat.not_lt, -Nat.not_le, -List.length_flatMap]
      have r0 : m2 0 = some (.cells [sV cN l] false) := by rw [u3 0 (fun h => by have := gB.ref h; omega) (by omega)]; simp +contextual (disch := omega) [Nat.add_assoc, Int.add_assoc, if_pos, if_neg, -Int.not_lt, -Int.not_le, -Nat.not_lt, -Nat.not_le, -List.length_flatMap, g0]
      simp +contextual (disch := omega) [Nat.add_assoc, Int.add_assoc, if_pos, if_neg, -Int.not_lt, -Int.not_le, -Nat.not_lt, -Nat.not_le, -List.length_flatMap, u1, -apV_ms, hC, hsc.1, hsc.2.1, -apV_ns]
      refine gC.apx [min (1 + wo) 1000] (fun j h => by have := gC.ref h; simp +contextual (disch := omega) [Nat.add_assoc, Int.add_assoc, if_pos, if_neg, -Int.not_lt, -Int.not_le, -Nat.not_lt, -Nat.not_le, -List.length_flatMap, hr2 j h]) (by omega) rfl rfl (by simp) (by simp [z1]; omega) ?_
      intro ws3 m3 v1 v2 v3
      have r1 : m3 0 = some (.cells [sV cN l] false) := by rw [v3 0 (fun h => by have := gC.ref h; omega) (by omega)]; simp +contextual (disch := omega) [Nat.add_assoc, Int.add_assoc, if_pos, if_neg, -Int.not_lt, -Int.not_le, -Nat.not_lt, -Nat.not_le, -List.length_flatMap, r0]
      simp +contextual (disch := omega) [Nat.add_assoc, Int.add_assoc, if_pos, if_neg, -Int.not_lt, -Int.not_le, -Nat.not_lt, -Nat.not_le, -List.length_flatMap, v1, g1, g6, r1]
      refine ⟨.inr ⟨_, by simp; rfl, ?_, by omega, by omega⟩, .inr ⟨_, by simp; rfl, ?_, by omega, by omega⟩⟩
      · rw [v3 _ (fun h => by have := gC.ref h; omega) (by omega)]
        simp +contextual (disch := omega) [Nat.add_assoc, Int.add_assoc, if_pos, if_neg, -Int.not_lt, -Int.not_le, -Nat.not_lt, -Nat.not_le, -List.length_flatMap, u2]
      · rw [v2]
    · rw [k0] at hk
      have haz : a < Z.length := by omega
      have hbz : b < Z.length := by omega
      have zb := z2 _ (List.getElem_mem haz)
      have zc := z2 _ (List.getElem_mem hbz)
      obtain ⟨p, hpB, hp1, hp2, hp3⟩ := gB.at (by intro h; rw [h] at l1; simp at l1; omega)
      obtain ⟨q, hqC, hq1, hq2, hq3⟩ := gC.at (by intro h; rw [h] at l2; simp at l2; omega)
      have t1 := flatI_at (Z.map A.var) a (by omega)
      have t2 := flatI_at (Z.map A.off) a (by omega)
      have t3 := flatI_at (Z.map A.var) b (by omega)
      have t4 := flatI_at (Z.map A.off) b (by omega)
      have n1 : ((Z.map A.var).flatMap cI).length = i := by rw [flatI_len, l1]
      have n2 : ((Z.map A.off).flatMap cI).length = i := by rw [flatI_len, l2]
      rw [List.getElem_map] at t1 t2 t3 t4
      rw [l1] at hpB
      rw [l2] at hqC
      subst hpB hqC
      have hta : l[i].a.toNat = a := by omega
      have htb : l[i].b.toNat = b := by omega
      have hgd : Z.getD a ⟨0, 0⟩ = Z[a] := by simp [haz]
      have hgd2 : Z.getD b ⟨0, 0⟩ = Z[b] := by simp [hbz]
      simp only [k0, hta, hgd, htb, hgd2] at ho
      generalize Z[a] = w at *
      generalize Z[b] = u at *
      obtain ⟨wv, wo⟩ := w
      obtain ⟨uv, uo⟩ := u
      simp only at zb t1 t2 ho zc t3 t4
      have ho2 : o = ⟨1 + max wv uv, min (1 + (wo + uo)) 1000⟩ := by rw [ho]; simp; omega
      subst ho2
      have hmx : max 1 (1 + wv) = 1 + wv := by omega
      simp +contextual (disch := omega) [Nat.add_assoc, Int.add_assoc, if_pos, if_neg, -Int.not_lt, -Int.not_le, -Nat.not_lt, -Nat.not_le, -List.length_flatMap, ref04_measure.b1, g1, g6, g0, hi, ansK hk, hB, hC, ka, kb, hp1, hq1, ha, hb, n1, n2, t1, t2, t3, t4, hmx, -apV_ms]
      refine gB.apx [1 + max wv uv] (fun j h => by have := gB.ref h; simp +contextual (disch := omega) [Nat.add_assoc, Int.add_assoc, if_pos, if_neg, -Int.not_lt, -Int.not_le, -Nat.not_lt, -Nat.not_le, -List.length_flatMap]) (by omega) rfl rfl (by simp) (by simp [z1]; omega) ?_
      intro ws2 m2 u1 u2 u3
      have hr2 : ∀ j, j ∈ refOf (V.ms q 0 i 1) → m2 j = m j := fun j h => by
        have := gC.ref h
        rw [u3 j (fun h' => gd j h' h) (by omega)]
        simp +contextual (disch := omega) [Nat.add_assoc, Int.add_assoc, if_pos, if_neg, -Int.not_lt, -Int.not_le, -Nat.not_lt, -Nat.not_le, -List.length_flatMap]
      have r0 : m2 0 = some (.cells [sV cN l] false) := by rw [u3 0 (fun h => by have := gB.ref h; omega) (by omega)]; simp +contextual (disch := omega) [Nat.add_assoc, Int.add_assoc, if_pos, if_neg, -Int.not_lt, -Int.not_le, -Nat.not_lt, -Nat.not_le, -List.length_flatMap, g0]
      simp +contextual (disch := omega) [Nat.add_assoc, Int.add_assoc, if_pos, if_neg, -Int.not_lt, -Int.not_le, -Nat.not_lt, -Nat.not_le, -List.length_flatMap, u1, -apV_ms, hC, hsc.1, hsc.2.1, -apV_ns]
      refine gC.apx [min (1 + (wo + uo)) 1000] (fun j h => by have := gC.ref h; simp +contextual (disch := omega) [Nat.add_assoc, Int.add_assoc, if_pos, if_neg, -Int.not_lt, -Int.not_le, -Nat.not_lt, -Nat.not_le, -List.length_flatMap, hr2 j h]) (by omega) rfl rfl (by simp) (by simp [z1]; omega) ?_
      intro ws3 m3 v1 v2 v3
      have r1 : m3 0 = some (.cells [sV cN l] false) := by rw [v3 0 (fun h => by have := gC.ref h; omega) (by omega)]; simp +contextual (disch := omega) [Nat.add_assoc, Int.add_assoc, if_pos, if_neg, -Int.not_lt, -Int.not_le, -Nat.not_lt, -Nat.not_le, -List.length_flatMap, r0]
      simp +contextual (disch := omega) [Nat.add_assoc, Int.add_assoc, if_pos, if_neg, -Int.not_lt, -Int.not_le, -Nat.not_lt, -Nat.not_le, -List.length_flatMap, v1, g1, g6, r1]
      refine ⟨.inr ⟨_, by simp; rfl, ?_, by omega, by omega⟩, .inr ⟨_, by simp; rfl, ?_, by omega, by omega⟩⟩
      · rw [v3 _ (fun h => by have := gC.ref h; omega) (by omega)]
        simp +contextual (disch := omega) [Nat.add_assoc, Int.add_assoc, if_pos, if_neg, -Int.not_lt, -Int.not_le, -Nat.not_lt, -Nat.not_le, -List.length_flatMap, u2]
      · rw [v2]
  · rintro e m x ⟨g1, g6, gx, g0, gB, gC, gd⟩
    have hz := gB.bf.fz24
    have hy := gC.bf.fz24
    generalize hB : e 4 = B at gB hz
    generalize hC : e 5 = C at gC hy
    simp +contextual (disch := omega) [Nat.add_assoc, Int.add_assoc, if_pos, if_neg, -Int.not_lt, -Int.not_le, -Nat.not_lt, -Nat.not_le, -List.length_flatMap, ref04_measure.b1, g1, g6, g0, hB, hC, hz, hy]
end Pi
