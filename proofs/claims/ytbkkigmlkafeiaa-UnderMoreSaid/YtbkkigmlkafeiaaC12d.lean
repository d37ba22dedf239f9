/- Contracts: constraints (layer 12): the first case of which something is told. -/
import Derived.Test.YtbkkigmlkafeiaaC07b
set_option linter.unusedSimpArgs false
set_option linter.unusedVariables false
namespace Pi
def firstU (f : Nat → Option (List Int)) (N : Nat) : Option (List Int) := (List.range N).findSome? f
theorem firstU_s (f : Nat → Option (List Int)) (k : Nat) : firstU f (k + 1) = (firstU f k).or (f k) := by
  unfold firstU
  rw [List.range_succ, List.findSome?_append]
  simp
theorem firstU_none {f : Nat → Option (List Int)} {k : Nat} (h : firstU f k = none) : ∀ N, k ≤ N → ∀ v, f k = some v → k < N → firstU f N = some v := by
  intro N
  induction N with
  | zero => intro _ v _ h; omega
  | succ N ih =>
    intro hkN v hv hk
    rw [firstU_s]
    by_cases e : k = N
    · subst e; rw [h, hv]; rfl
    · rw [ih (by omega) v hv (by omega)]; rfl
/-- A list of numbers of its own in memory, from y on, or nil. -/
def Rw (r : V) (o : Option (List Int)) (m : Sto) (y x : Nat) : Prop := (r = .ns ∧ o.getD [] = []) ∨ (o.getD [] ≠ [] ∧ ∃ b, r = .ms b 0 (o.getD []).length 1 ∧ m b = some (.cells ((o.getD []).flatMap cI) false) ∧ y ≤ b ∧ b < x)
theorem Rw.stor {r : V} {o : Option (List Int)} {m : Sto} {y x : Nat} (h : Rw r o m y x) : r.stor = true ∧ r.cells = [r] := by
  rcases h with ⟨rfl, _⟩ | ⟨_, b, rfl, _⟩ <;> exact ⟨rfl, rfl⟩
theorem Rw.up {r : V} {o : Option (List Int)} {m m' : Sto} {y y' x x' : Nat} (h : Rw r o m y x) (hm : ∀ j, y ≤ j → j < x → m' j = m j) (hy : y' ≤ y) (hx : x ≤ x') : Rw r o m' y' x' := by
  rcases h with h | ⟨h0, b, h1, h2, h3, h4⟩
  · exact .inl h
  · exact .inr ⟨h0, b, h1, (hm b h3 h4).trans h2, by omega, by omega⟩
theorem Rw.fz {r : V} {o : Option (List Int)} {m : Sto} {y x : Nat} (h : Rw r o m y x) : ∃ ids, frzW (der m 24) r = some (sV cI (o.getD []), ids) ∧ ∀ j ∈ ids, y ≤ j ∧ j < x := by
  rcases h with ⟨rfl, h⟩ | ⟨_, b, rfl, h2, h3, h4⟩
  · rw [h]; exact ⟨[], rfl, fun j hj => by cases hj⟩
  · have hB : Bf m (.ms b 0 (o.getD []).length 1) cI 1 (o.getD []) b (b + 1) := Bf.mem h2 rfl rfl (by omega) (by omega)
    exact ⟨_, hB.fz24, fun j hj => by simp [refOf] at hj; omega⟩
theorem Rw.out (o : Option (List Int)) (m : Sto) (x : Nat) : Rw (outU o x) o (fM m x (outC o)) x (fX x (outC o)) := by
  unfold outU outC
  by_cases h : o.getD [] = []
  · rw [if_pos h]; exact .inl ⟨rfl, h⟩
  · rw [if_neg h, if_neg h]
    exact .inr ⟨h, x, rfl, by simp, Nat.le_refl _, by simp⟩
theorem Rw.frr {r : V} {o : Option (List Int)} {m : Sto} {y x : Nat} (h : Rw r o m y x) (b : Bool) (n : Int) : FrR (fun x => .tu [.b b, outU o x, .i .i64 n]) (outC o) (.tu [.b b, r, .i .i64 n]) m := by
  rcases h with ⟨rfl, h⟩ | ⟨h0, k, rfl, h2, _⟩
  · exact FrR_nil3 h b n m
  · cases o with
    | none => exact absurd rfl h0
    | some l => exact FrR_cons3 rfl h0 b n h2
theorem outC_lt (o : Option (List Int)) (m : Sto) (x : Nat) : x ≤ fX x (outC o) ∧ ∀ j, j < x → fM m x (outC o) j = m j := by
  unfold outC
  split
  · exact ⟨Nat.le_refl _, fun _ _ => rfl⟩
  · exact ⟨by simp, fun j hj => by simp [Sto.sne _ _ _ _ (by omega : j ≠ x)]⟩
set_option maxRecDepth 20000 in
set_option maxHeartbeats 2000000 in
theorem under_first.w {n : Nat} (hn : n ≤ 5) (cs : List Kn) (G : V) (hG1 : G.stor = true) (hG2 : G.cells = [G]) (f : Nat → Option (List Int)) {m : Sto} {x0 : Nat} {K : CR → Sto → Nat → Prop}
    (hG : ∀ k, k < 2 ^ n → ∀ M y x Z K', x0 ≤ y → y ≤ x → (∀ j, j < x0 → M j = m j) → Zm M Z (caseP k n) y x →
      (∀ M' x' r, x ≤ x' → (∀ j, j < y → M' j = M j) → Rw r (f k) M' y x' → K' (.ret (.tu [r, .b (f k).isSome])) M' x') → CallX ctx G [.ag [sV cK cs, Z]] M x K')
    (hK : ∀ m' x' r, x0 ≤ x' → (∀ j, j < x0 → m' j = m j) → Rw r (firstU f (2 ^ n)) m' x0 x' → K (.ret (.tu [r, .b (firstU f (2 ^ n)).isSome])) m' x') :
    Pi.w ctx (envOf [sV cK cs, .i .i64 n, G]) m x0 [] none none (RetG ctx under_first.c.rs K) under_first.c.code := by
  simp +contextual (disch := omega) [Nat.add_assoc, Int.add_assoc, if_pos, if_neg, -Int.not_lt, -Int.not_le, -Nat.not_lt, -Nat.not_le, -List.length_flatMap, under_first.c, hG1, hG2]
  rw [CallX_op (by rfl)]
  refine openg_w rfl rfl (.inl rfl) ?_
  have hfa : ctx.frz leq_All.n = false := rfl
  rw [hfa]
  simp +contextual (disch := omega) [Nat.add_assoc, Int.add_assoc, if_pos, if_neg, -Int.not_lt, -Int.not_le, -Nat.not_lt, -Nat.not_le, -List.length_flatMap, leq_All.c]
  refine gen_e (fun E => E 3 = .p x0 0 ∧ E 5 = .p (x0 + 1) 0 ∧ E 6 = .p (x0 + 2) 0 ∧ E 7 = .p (x0 + 3) 0 ∧ E 12 = .fn (.func leq_All_1.n) [] [.p (x0 + 5) 0]) (by simp +contextual (disch := omega) [Nat.add_assoc, Int.add_assoc, if_pos, if_neg, -Int.not_lt, -Int.not_le, -Nat.not_lt, -Nat.not_le, -List.length_flatMap]) ?_
  rintro E ⟨E3, E5, E6, E7, E12⟩
  refine rf_g fun A B hA hB => ?_
  simp +contextual (disch := omega) [Nat.add_assoc, Int.add_assoc, if_pos, if_neg, -Int.not_lt, -Int.not_le, -Nat.not_lt, -Nat.not_le, -List.length_flatMap, E12]
  refine leq_All_1.w hn (fun k m1 x => m1 (x0 + 5) = some (.cells [.i .i64 n] false) ∧ m1 (x0 + 9) = some .dfr ∧ m1 (x0 + 10) = some (.loop ⟨E, [13], A, B, .ready, none⟩) ∧ m1 x0 = some (.cells [sV cK cs] false) ∧ m1 (x0 + 1) = some (.cells [G] false) ∧
      m1 (x0 + 2) = some (.cells [.ns] false) ∧ m1 (x0 + 3) = some (.cells [.b false] false) ∧ (∀ j, j < x0 → m1 j = m j) ∧ firstU f k = none)
    (fun m1 x => m1 (x0 + 9) = some .dfr ∧ m1 (x0 + 10) = some (.loop ⟨E, [13], A, B, .done, some .ret⟩) ∧ m1 (x0 + 3) = some (.cells [.b true] false) ∧ (∀ j, j < x0 → m1 j = m j) ∧ ∃ v r, firstU f (2 ^ n) = some v ∧ Rw r (some v) m1 (x0 + 11) x ∧ m1 (x0 + 2) = some (.cells [r] false)) ?_ ?_ ?_ ?_ ?_ ?_ ?_
  · rintro k m1 x ⟨q, _⟩
    exact q
  · rintro k m1 x m' x' hx ⟨q5, q9, q10, q0, q1, q2, q3, qj, qn⟩ hxx h
    exact ⟨(h _ (by omega)).trans q5, (h _ (by omega)).trans q9, (h _ (by omega)).trans q10, (h _ (by omega)).trans q0, (h _ (by omega)).trans q1, (h _ (by omega)).trans q2, (h _ (by omega)).trans q3, fun j hj => (h _ (by omega)).trans (qj j hj), qn⟩
  · refine ⟨?_, ?_, ?_, ?_, ?_, ?_, ?_, fun j hj => ?_, rfl⟩ <;> simp +contextual (disch := omega) [Nat.add_assoc, Int.add_assoc, if_pos, if_neg, -Int.not_lt, -Int.not_le, -Nat.not_lt, -Nat.not_le, -List.length_flatMap]
  · rintro m1 x x' ⟨q9, q10, q3, qj, v, r, hv, hr, q2⟩ hx
    exact ⟨q9, q10, q3, qj, v, r, hv, hr.up (fun _ _ _ => rfl) (Nat.le_refl _) hx, q2⟩
  · rintro k hk m1 y x Z K' hy hyx ⟨q5, q9, q10, q0, q1, q2, q3, qj, qn⟩ hZ ht hf'
    have hst := hZ.bf.stor
    have hce := hZ.bf.cells
    refine yield_w q10 rfl rfl ?_
    refine w_as hA ?_
    simp +contextual (disch := omega) [Nat.add_assoc, Int.add_assoc, if_pos, if_neg, -Int.not_lt, -Int.not_le, -Nat.not_lt, -Nat.not_le, -List.length_flatMap, under_first.a1, q10]
    refine w_as hB ?_
    generalize hM1 : Sto.set m1 (x0 + 10) _ = M1
    have v10 : M1 (x0 + 10) = some (.loop ⟨E, [13], A, B, .busy, none⟩) := by rw [← hM1]; simp +contextual (disch := omega) [Nat.add_assoc, Int.add_assoc, if_pos, if_neg, -Int.not_lt, -Int.not_le, -Nat.not_lt, -Nat.not_le, -List.length_flatMap]
    have vo : ∀ j, j ≠ x0 + 10 → M1 j = m1 j := fun j hj => by rw [← hM1, Sto.sne _ _ _ _ hj]
    have vZ : Zm M1 Z (caseP k n) y x := by
      rcases hZ with h | ⟨b, e1, e2, e3, e4⟩
      · exact .inl h
      · exact .inr ⟨b, e1, by rw [vo b (by omega), e2], e3, e4⟩
    clear hM1
    have v0 := (vo x0 (by omega)).trans q0
    have v1 := (vo (x0 + 1) (by omega)).trans q1
    simp +contextual (disch := omega) [Nat.add_assoc, Int.add_assoc, if_pos, if_neg, -Int.not_lt, -Int.not_le, -Nat.not_lt, -Nat.not_le, -List.length_flatMap, under_first.b2, E3, E5, v0, v1, hst, hce]
    refine hG k hk M1 y (x + 5) Z _ (by omega) (by omega) (fun j hj => by rw [vo j (by omega), qj j hj]) (by
      rcases vZ with h | ⟨b, e1, e2, e3, e4⟩
      · exact .inl h
      · exact .inr ⟨b, e1, e2, e3, by omega⟩) ?_
    intro M' x' r hx' hM' hr
    have hrs := hr.stor
    have w2 := ((hM' (x0 + 2) (by omega)).trans (vo _ (by omega))).trans q2
    have w3 := ((hM' (x0 + 3) (by omega)).trans (vo _ (by omega))).trans q3
    have w10 := (hM' (x0 + 10) (by omega)).trans v10
    have wo : ∀ j, j < y → j ≠ x0 + 10 → M' j = m1 j := fun j h1 h2 => (hM' j h1).trans (vo j h2)
    cases hf : f k with
    | none =>
      rw [hf] at hr
      simp +contextual (disch := omega) [Nat.add_assoc, Int.add_assoc, if_pos, if_neg, -Int.not_lt, -Int.not_le, -Nat.not_lt, -Nat.not_le, -List.length_flatMap, w10]
      refine ht _ _ (by omega) ⟨?_, ?_, ?_, ?_, ?_, ?_, ?_, fun j hj => ?_, ?_⟩
      · simp +contextual (disch := omega) [Nat.add_assoc, Int.add_assoc, if_pos, if_neg, -Int.not_lt, -Int.not_le, -Nat.not_lt, -Nat.not_le, -List.length_flatMap, wo (x0 + 5) (by omega) (by omega), q5]
      · simp +contextual (disch := omega) [Nat.add_assoc, Int.add_assoc, if_pos, if_neg, -Int.not_lt, -Int.not_le, -Nat.not_lt, -Nat.not_le, -List.length_flatMap, wo (x0 + 9) (by omega) (by omega), q9]
      · simp +contextual (disch := omega) [Nat.add_assoc, Int.add_assoc, if_pos, if_neg, -Int.not_lt, -Int.not_le, -Nat.not_lt, -Nat.not_le, -List.length_flatMap]
      · simp +contextual (disch := omega) [Nat.add_assoc, Int.add_assoc, if_pos, if_neg, -Int.not_lt, -Int.not_le, -Nat.not_lt, -Nat.not_le, -List.length_flatMap, wo x0 (by omega) (by omega), q0]
      · simp +contextual (disch := omega) [Nat.add_assoc, Int.add_assoc, if_pos, if_neg, -Int.not_lt, -Int.not_le, -Nat.not_lt, -Nat.not_le, -List.length_flatMap, wo (x0 + 1) (by omega) (by omega), q1]
      · simp +contextual (disch := omega) [Nat.add_assoc, Int.add_assoc, if_pos, if_neg, -Int.not_lt, -Int.not_le, -Nat.not_lt, -Nat.not_le, -List.length_flatMap, w2]
      · simp +contextual (disch := omega) [Nat.add_assoc, Int.add_assoc, if_pos, if_neg, -Int.not_lt, -Int.not_le, -Nat.not_lt, -Nat.not_le, -List.length_flatMap, w3]
      · simp +contextual (disch := omega) [Nat.add_assoc, Int.add_assoc, if_pos, if_neg, -Int.not_lt, -Int.not_le, -Nat.not_lt, -Nat.not_le, -List.length_flatMap, wo j (by omega) (by omega), qj j hj]
      · rw [firstU_s, qn, hf]; rfl
    | some v =>
      rw [hf] at hr
      simp +contextual (disch := omega) [Nat.add_assoc, Int.add_assoc, if_pos, if_neg, -Int.not_lt, -Int.not_le, -Nat.not_lt, -Nat.not_le, -List.length_flatMap, w10, E6, E7, w2, w3, hrs.1, hrs.2]
      refine hf' _ _ (by omega) ⟨?_, ?_, ?_, fun j hj => ?_, v, r, firstU_none qn _ (by omega) v hf hk, hr.up (fun j h1 h2 => by simp +contextual (disch := omega) [Nat.add_assoc, Int.add_assoc, if_pos, if_neg, -Int.not_lt, -Int.not_le, -Nat.not_lt, -Nat.not_le, -List.length_flatMap]) (by omega) (by omega), ?_⟩
      · simp +contextual (disch := omega) [Nat.add_assoc, Int.add_assoc, if_pos, if_neg, -Int.not_lt, -Int.not_le, -Nat.not_lt, -Nat.not_le, -List.length_flatMap, wo (x0 + 9) (by omega) (by omega), q9]
      · simp +contextual (disch := omega) [Nat.add_assoc, Int.add_assoc, if_pos, if_neg, -Int.not_lt, -Int.not_le, -Nat.not_lt, -Nat.not_le, -List.length_flatMap]
      · simp +contextual (disch := omega) [Nat.add_assoc, Int.add_assoc, if_pos, if_neg, -Int.not_lt, -Int.not_le, -Nat.not_lt, -Nat.not_le, -List.length_flatMap]
      · simp +contextual (disch := omega) [Nat.add_assoc, Int.add_assoc, if_pos, if_neg, -Int.not_lt, -Int.not_le, -Nat.not_lt, -Nat.not_le, -List.length_flatMap, wo j (by omega) (by omega), qj j hj]
      · simp +contextual (disch := omega) [Nat.add_assoc, Int.add_assoc, if_pos, if_neg, -Int.not_lt, -Int.not_le, -Nat.not_lt, -Nat.not_le, -List.length_flatMap]
  · rintro m1 x' hx ⟨q5, q9, q10, q0, q1, q2, q3, qj, qn⟩
    simp +contextual (disch := omega) [Nat.add_assoc, Int.add_assoc, if_pos, if_neg, -Int.not_lt, -Int.not_le, -Nat.not_lt, -Nat.not_le, -List.length_flatMap, q9, q10, E6, E7, q2, q3]
    rw [qn] at hK
    exact hK _ _ _ (by omega) (fun j hj => by simp +contextual (disch := omega) [Nat.add_assoc, Int.add_assoc, if_pos, if_neg, -Int.not_lt, -Int.not_le, -Nat.not_lt, -Nat.not_le, -List.length_flatMap, qj j hj]) (.inl ⟨rfl, rfl⟩)
  · rintro m1 x' hx ⟨q9, q10, q3, qj, v, r, hv, hr, q2⟩
    simp +contextual (disch := omega) [Nat.add_assoc, Int.add_assoc, if_pos, if_neg, -Int.not_lt, -Int.not_le, -Nat.not_lt, -Nat.not_le, -List.length_flatMap, q9, q10, E6, E7, q2, q3]
    rw [hv] at hK
    exact hK _ _ _ (by omega) (fun j hj => by simp +contextual (disch := omega) [Nat.add_assoc, Int.add_assoc, if_pos, if_neg, -Int.not_lt, -Int.not_le, -Nat.not_lt, -Nat.not_le, -List.length_flatMap, qj j hj]) (hr.up (fun j h1 h2 => by simp +contextual (disch := omega) [Nat.add_assoc, Int.add_assoc, if_pos, if_neg, -Int.not_lt, -Int.not_le, -Nat.not_lt, -Nat.not_le, -List.length_flatMap]) (by omega) (by omega))
end Pi


set_option linter.unusedSimpArgs false
set_option linter.unusedVariables false
namespace Pi
def baseZ (z : List Bool) : List Int := z.map fun b => if b = true then 0 else 1
def greatF (g : F) : Int := max (g.cst + 2) (topF g + 3)
def moreAt : List Int → List Int → Nat → Option Nat
  | a :: l, b :: r, i => if b < a then some i else moreAt l r (i + 1)
  | _, _, _ => none
def againstS (f g : F) (z : List Bool) : List Int := match moreAt f.offs g.offs 0 with
  | some i => (baseZ z).set i (greatF g)
  | none => baseZ z
theorem baseZ_len (z : List Bool) : (baseZ z).length = z.length := by simp [baseZ]
theorem againstS_len (f g : F) (z : List Bool) : (againstS f g z).length = z.length := by
  unfold againstS
  split <;> simp [baseZ]
theorem moreAt_at {a b : List Int} {i : Nat} (h1 : i < a.length) (h2 : i < b.length) : moreAt (a.drop i) (b.drop i) i = if b[i] < a[i] then some i else moreAt (a.drop (i + 1)) (b.drop (i + 1)) (i + 1) := by
  rw [List.drop_eq_getElem_cons h1, List.drop_eq_getElem_cons h2, moreAt]
theorem moreAt_end {a b : List Int} {i j : Nat} (h1 : a.length ≤ i) : moreAt (a.drop i) (b.drop i) j = none := by
  rw [List.drop_of_length_le h1]; simp [moreAt]
theorem great_up (l : List Int) (c t : Int) (hc : 2 ≤ c) (ht : -1 ≤ t) : l.foldl (fun a o => max a (o + 3)) (max c (t + 3)) = max c (l.foldl max t + 3) := by
  induction l generalizing t with
  | nil => rfl
  | cons b l ih =>
    simp only [List.foldl_cons]
    rw [← ih (max t b) (by omega)]
    congr 1
    omega
theorem base_take {z : List Bool} {i : Nat} (hi : i < z.length) : baseZ (z.take (i + 1)) = baseZ (z.take i) ++ [if z[i] = true then 0 else 1] := by
  rw [List.take_succ_eq_append_getElem hi]
  simp only [baseZ, List.map_append, List.map_cons, List.map_nil]
set_option maxHeartbeats 1000000 in
theorem ref07_against.a (f g : F) (z : List Bool) (hf : rightF f = true) (hg : rightF g = true) (hl1 : f.offs.length = z.length) (hl2 : g.offs.length = z.length) : Ans ctx ref07_against.n [.ag (cF f), .ag (cF g), sV cB z] (sV cI (againstS f g z)) := by
  refine ans ref07_against.f ?_
  obtain ⟨f1, f2, f3, f4, f5⟩ := right_F hf
  obtain ⟨g1, g2, g3, g4, g5⟩ := right_F hg
  obtain ⟨R, hR⟩ : ∃ R, R = againstS f g z := ⟨_, rfl⟩
  rw [← hR]
  simp +contextual (disch := omega) [Nat.add_assoc, Int.add_assoc, if_pos, if_neg, -Int.not_lt, -Int.not_le, -Nat.not_lt, -Nat.not_le, -List.length_flatMap, ref07_against.c]
  refine for_w (fun i e m x => e 2 = sV cB z ∧ e 3 = .p 0 0 ∧ e 4 = .p 1 0 ∧ e 8 = .i .i64 i ∧ 2 ≤ x ∧ m 0 = some (.cells (cF f) false) ∧ m 1 = some (.cells (cF g) false) ∧ Ex m (e 7) (baseZ (z.take i)) 2 x) z.length ?_ ?_ ?_
  · simp +contextual (disch := omega) [Nat.add_assoc, Int.add_assoc, if_pos, if_neg, -Int.not_lt, -Int.not_le, -Nat.not_lt, -Nat.not_le, -List.length_flatMap]
    exact .inl ⟨rfl, rfl⟩
  · rintro i e m x hi ⟨q2, q3, q4, q8, gx, y0, y1, gB⟩
    generalize hB : e 7 = B at gB
    have hbt := base_take hi
    have hbl := baseZ_len (z.take i)
    have hln : (baseZ (z.take i)).length ≤ 5 := by rw [hbl, List.length_take]; omega
    cases hzi : z[i] with
    | true =>
      rw [hzi, if_pos rfl] at hbt
      simp +contextual (disch := omega) [Nat.add_assoc, Int.add_assoc, if_pos, if_neg, -Int.not_lt, -Int.not_le, -Nat.not_lt, -Nat.not_le, -List.length_flatMap, ref07_against.b1, q2, q3, q4, q8, y0, y1, hB, hi, hzi, -apV_ns]
      refine gB.ap [0] (fun j h1 h2 => by simp +contextual (disch := omega) [Nat.add_assoc, Int.add_assoc, if_pos, if_neg, -Int.not_lt, -Int.not_le, -Nat.not_lt, -Nat.not_le, -List.length_flatMap]) (by omega) (by omega) rfl rfl (by simp) (by simp; omega) ?_
      intro B' ws m2 z0 z1 z2 z3
      rw [← hbt] at z1
      have r0 : m2 0 = some (.cells (cF f) false) := by rw [z2 0 (by omega)]; simp +contextual (disch := omega) [Nat.add_assoc, Int.add_assoc, if_pos, if_neg, -Int.not_lt, -Int.not_le, -Nat.not_lt, -Nat.not_le, -List.length_flatMap, y0]
      have r1 : m2 1 = some (.cells (cF g) false) := by rw [z2 1 (by omega)]; simp +contextual (disch := omega) [Nat.add_assoc, Int.add_assoc, if_pos, if_neg, -Int.not_lt, -Int.not_le, -Nat.not_lt, -Nat.not_le, -List.length_flatMap, y1]
      have hst := z1.stor
      simp +contextual (disch := omega) [Nat.add_assoc, Int.add_assoc, if_pos, if_neg, -Int.not_lt, -Int.not_le, -Nat.not_lt, -Nat.not_le, -List.length_flatMap, z0, q2, q3, q4, q8, r0, r1, hst.1, hst.2.1]
      exact z1.up (Nat.le_refl _) (by omega) (fun _ _ _ => rfl)
    | false =>
      rw [hzi, if_neg (by simp)] at hbt
      simp +contextual (disch := omega) [Nat.add_assoc, Int.add_assoc, if_pos, if_neg, -Int.not_lt, -Int.not_le, -Nat.not_lt, -Nat.not_le, -List.length_flatMap, ref07_against.b1, q2, q3, q4, q8, y0, y1, hB, hi, hzi, -apV_ns]
      refine gB.ap [1] (fun j h1 h2 => by simp +contextual (disch := omega) [Nat.add_assoc, Int.add_assoc, if_pos, if_neg, -Int.not_lt, -Int.not_le, -Nat.not_lt, -Nat.not_le, -List.length_flatMap]) (by omega) (by omega) rfl rfl (by simp) (by simp; omega) ?_
      intro B' ws m2 z0 z1 z2 z3
      rw [← hbt] at z1
      have r0 : m2 0 = some (.cells (cF f) false) := by rw [z2 0 (by omega)]; simp +contextual (disch := omega) [Nat.add_assoc, Int.add_assoc, if_pos, if_neg, -Int.not_lt, -Int.not_le, -Nat.not_lt, -Nat.not_le, -List.length_flatMap, y0]
      have r1 : m2 1 = some (.cells (cF g) false) := by rw [z2 1 (by omega)]; simp +contextual (disch := omega) [Nat.add_assoc, Int.add_assoc, if_pos, if_neg, -Int.not_lt, -Int.not_le, -Nat.not_lt, -Nat.not_le, -List.length_flatMap, y1]
      have hst := z1.stor
      simp +contextual (disch := omega) [Nat.add_assoc, Int.add_assoc, if_pos, if_neg, -Int.not_lt, -Int.not_le, -Nat.not_lt, -Nat.not_le, -List.length_flatMap, z0, q2, q3, q4, q8, r0, r1, hst.1, hst.2.1]
      exact z1.up (Nat.le_refl _) (by omega) (fun _ _ _ => rfl)
  · rintro e m x ⟨q2, q3, q4, q8, gx, y0, y1, gB⟩
    rw [List.take_length] at gB
    generalize hB : e 7 = B at gB
    simp +contextual (disch := omega) [Nat.add_assoc, Int.add_assoc, if_pos, if_neg, -Int.not_lt, -Int.not_le, -Nat.not_lt, -Nat.not_le, -List.length_flatMap, ref07_against.b1, q2, q3, q4, q8, y0, y1, hB]
    refine for_w (fun i e m x => e 3 = .p 0 0 ∧ e 4 = .p 1 0 ∧ e 7 = B ∧ e 10 = .i .i64 ((g.offs.take i).foldl (fun a o => max a (o + 3)) (g.cst + 2)) ∧ e 11 = .i .i64 i ∧ 2 ≤ x ∧ m 0 = some (.cells (cF f) false) ∧ m 1 = some (.cells (cF g) false) ∧ Ex m B (baseZ z) 2 x) g.offs.length ?_ ?_ ?_
    · simp +contextual (disch := omega) [Nat.add_assoc, Int.add_assoc, if_pos, if_neg, -Int.not_lt, -Int.not_le, -Nat.not_lt, -Nat.not_le, -List.length_flatMap, q3, q4, hB, y0, y1]
      exact gB.up (Nat.le_refl _) (by omega) (fun _ _ _ => rfl)
    · rintro i e m x hi ⟨q3, q4, q7, q10, q11, gx, y0, y1, gB⟩
      have hoi := g3 _ (List.getElem_mem hi)
      have hfo := take_fold (f := fun a o => max a (o + 3)) (b := g.cst + 2) hi
      simp +contextual (disch := omega) [Nat.add_assoc, Int.add_assoc, if_pos, if_neg, -Int.not_lt, -Int.not_le, -Nat.not_lt, -Nat.not_le, -List.length_flatMap, ref07_against.b2, q3, q4, q7, q10, q11, y0, y1, hi, hfo]
      exact gB.up (Nat.le_refl _) (by omega) (fun _ _ _ => rfl)
    · rintro e m x ⟨q3, q4, q7, q10, q11, gx, y0, y1, gB⟩
      have hgu := great_up g.offs (g.cst + 2) (-1) (by omega) (by omega)
      rw [(by omega : max (g.cst + 2) (-1 + 3) = g.cst + 2)] at hgu
      rw [List.take_length, hgu] at q10
      have q10' : e 10 = .i .i64 (greatF g) := q10
      simp +contextual (disch := omega) [Nat.add_assoc, Int.add_assoc, if_pos, if_neg, -Int.not_lt, -Int.not_le, -Nat.not_lt, -Nat.not_le, -List.length_flatMap, ref07_against.b2, q3, q4, q7, q10', q11, y0, y1]
      refine for_w (fun i e m x => e 3 = .p 0 0 ∧ e 4 = .p 1 0 ∧ e 7 = B ∧ e 10 = .i .i64 (greatF g) ∧ e 12 = .i .i64 i ∧ 2 ≤ x ∧ m 0 = some (.cells (cF f) false) ∧ m 1 = some (.cells (cF g) false) ∧ Ex m B (baseZ z) 2 x ∧ moreAt f.offs g.offs 0 = moreAt (f.offs.drop i) (g.offs.drop i) i) f.offs.length ?_ ?_ ?_
      · simp +contextual (disch := omega) [Nat.add_assoc, Int.add_assoc, if_pos, if_neg, -Int.not_lt, -Int.not_le, -Nat.not_lt, -Nat.not_le, -List.length_flatMap, q3, q4, q7, q10', y0, y1]
        exact gB.up (Nat.le_refl _) (by omega) (fun _ _ _ => rfl)
      · rintro i e m x hi ⟨q3, q4, q7, q10, q12, gx, y0, y1, gB, hmo⟩
        have hi2 : i < g.offs.length := by omega
        rw [moreAt_at hi hi2] at hmo
        by_cases hlt : g.offs[i] < f.offs[i]
        · rw [if_pos hlt] at hmo
          have hR2 : R = (baseZ z).set i (greatF g) := by rw [hR]; unfold againstS; rw [hmo]
          have hbl := baseZ_len z
          have hfs := flatI_set (l := baseZ z) (j := i) (v := greatF g) (by omega)
          obtain ⟨w, hw⟩ : ∃ w, w = (baseZ z).set i (greatF g) := ⟨_, rfl⟩
          rw [← hw] at hfs hR2
          have hwl : w.length = (baseZ z).length := by rw [hw, List.length_set]
          have hcl : ((baseZ z).flatMap cI).length = (baseZ z).length := flatI_len _
          have hcl2 : (w.flatMap cI).length = (baseZ z).length := by rw [flatI_len, hwl]
          have htk := flatI_all (q := w) (n := (baseZ z).length) hwl.symm
          rcases gB with ⟨_, h⟩ | ⟨b, rfl, y5, h2, h3⟩
          · rw [h] at hbl; simp at hbl; omega
          · have hib : i < (baseZ z).length := by omega
            simp +contextual (disch := omega) [Nat.add_assoc, Int.add_assoc, if_pos, if_neg, -Int.not_lt, -Int.not_le, -Nat.not_lt, -Nat.not_le, -List.length_flatMap, ref07_against.b3, q3, q4, q7, q10, q12, y0, y1, y5, hi, hi2, hlt, hcl, hfs, hcl2, htk, hib]
            rw [hR2]
            simp [sV, hwl]
        · rw [if_neg hlt] at hmo
          simp +contextual (disch := omega) [Nat.add_assoc, Int.add_assoc, if_pos, if_neg, -Int.not_lt, -Int.not_le, -Nat.not_lt, -Nat.not_le, -List.length_flatMap, ref07_against.b3, q3, q4, q7, q10, q12, y0, y1, hi, hi2, hlt]
          exact ⟨gB.up (Nat.le_refl _) (by omega) (fun _ _ _ => rfl), hmo⟩
      · rintro e m x ⟨q3, q4, q7, q10, q12, gx, y0, y1, gB, hmo⟩
        rw [moreAt_end (by omega)] at hmo
        have hR2 : R = baseZ z := by rw [hR]; unfold againstS; rw [hmo]
        have hz := gB.bf.fz24
        simp +contextual (disch := omega) [Nat.add_assoc, Int.add_assoc, if_pos, if_neg, -Int.not_lt, -Int.not_le, -Nat.not_lt, -Nat.not_le, -List.length_flatMap, ref07_against.b3, q3, q4, q7, q10, q12, y0, y1, hz]
        rw [hR2]
end Pi


set_option linter.unusedSimpArgs false
set_option linter.unusedVariables false
namespace Pi
def badAt : List F → List F → Nat → Option Nat
  | a :: l, b :: r, i => if leqF a b = true then badAt l r (i + 1) else some i
  | _, _, _ => none
theorem badAt_at {a b : List F} {i : Nat} (h1 : i < a.length) (h2 : i < b.length) : badAt (a.drop i) (b.drop i) i = if leqF a[i] b[i] = true then badAt (a.drop (i + 1)) (b.drop (i + 1)) (i + 1) else some i := by
  rw [List.drop_eq_getElem_cons h1, List.drop_eq_getElem_cons h2, badAt]
theorem badAt_end {a b : List F} {i j : Nat} (h1 : a.length ≤ i) : badAt (a.drop i) (b.drop i) j = none := by
  rw [List.drop_of_length_le h1]; simp [badAt]
def leqAt (a b : L) (n k : Nat) : List Int := againstS (flattenF a (caseP k n)) (flattenF b (caseP k n)) (caseP k n)
def leqR (a b : L) (n : Nat) : V := match badAt (casesF a n) (casesF b n) 0 with
  | some k => .tu [.b false, sV cI (leqAt a b n k), .i .i64 0]
  | none => .tu [.b true, sV cI [], .i .i64 0]
def leqV (a b : L) (p : Int) : V := if RightS a p 0 = true ∧ RightS b p 0 = true then leqR a b p.toNat else .tu [.b false, sV cI [], .i .i64 1]
theorem casesF_at {l : L} {n k : Nat} (h : k < 2 ^ n) (h2 : k < (casesF l n).length) : (casesF l n)[k] = flattenF l (caseP k n) := by simp [casesF]
theorem badAt_step {a b : L} {n k : Nat} (h : k < 2 ^ n) : badAt ((casesF a n).drop k) ((casesF b n).drop k) k = if leqF (flattenF a (caseP k n)) (flattenF b (caseP k n)) = true then badAt ((casesF a n).drop (k + 1)) ((casesF b n).drop (k + 1)) (k + 1) else some k := by
  have h1 := casesF_len a n
  have h2 := casesF_len b n
  rw [badAt_at (by omega) (by omega), casesF_at h, casesF_at h]
theorem flatten_len {l : L} {Z : List Bool} (hr : RightS l Z.length 0 = true) : (flattenF l Z).offs.length = Z.length ∧ rightF (flattenF l Z) = true := by
  obtain ⟨hp, hr'⟩ := RightS_ok (q := 0) hr
  have hbd := ofS_bd _ Z 12 hr'
  refine ⟨?_, flatten_right (by omega) (by omega) hr'⟩
  rw [flatten_low _ Z hbd]
  exact hbd.1
theorem fz_bare {m : Sto} {Z : V} {z : List Bool} {lo x : Nat} (h : Zm m Z z lo x) {m' : Sto} (hm : ∀ j, lo ≤ j → j < x → bare (m' j) = bare (m j)) : frzW (der m' 24) Z = some (sV cB z, refOf Z) := by
  rcases h with ⟨rfl, rfl⟩ | ⟨b, rfl, h1, h2, h3⟩
  · rw [frzW_ns]; rfl
  · have := hm b h2 h3
    rw [h1] at this
    rw [frzW_ms, der_s, derO_bare, this, ← derO_bare, derO_cells, (Rm.full (f := cB) (k := 1) z).fz]
    have hl := flatB_len z
    simp [sV, refOf, hl]
    rw [← hl, List.take_length]
end Pi


set_option linter.unusedSimpArgs false
set_option linter.unusedVariables false
namespace Pi
def possAt (cs : List Kn) (n k : Nat) : Option (List Int) := valO (caseP k n) (clU cs (caseP k n))
def possU (cs : List Kn) (n : Nat) : Option (List Int) := firstU (possAt cs n) (2 ^ n)
def possV (cs : List Kn) (p : Int) : V := if RightU cs p = true then .tu [.b (possU cs p.toNat).isSome, sV cI ((possU cs p.toNat).getD []), .i .i64 0] else .tu [.b false, sV cI [], .i .i64 1]
theorem RightU_ok {cs : List Kn} {p : Int} (h : RightU cs p = true) (hc : ∀ c ∈ cs, c.Ok) : ∃ n : Nat, p = n ∧ n ≤ 5 ∧ ∀ z : List Bool, z.length = n → GoodKs cs z := by
  simp [RightU] at h
  refine ⟨p.toNat, by omega, by omega, fun z hz => ⟨by omega, by omega, fun c hcm => ?_⟩⟩
  have h1 := h.2 c hcm
  simp only [rightK, Bool.and_eq_true] at h1
  have e : ((z.length : Nat) : Int) = p := by omega
  rw [e]
  exact ⟨hc c hcm, h1.1, h1.2⟩
theorem under_Possible_1.w {cs : List Kn} {z : List Bool} (hg : GoodKs cs z) {M : Sto} {y x : Nat} {Z : V} {K : CR → Sto → Nat → Prop} (hyx : y ≤ x) (hZ : Zm M Z z y x)
    (hret : ∀ M' x' r, x ≤ x' → (∀ j, j < x → M' j = M j) → Rw r (valO z (clU cs z)) M' x x' → K (.ret (.tu [r, .b (valO z (clU cs z)).isSome])) M' x') :
    Pi.w ctx (envOf [.ag [sV cK cs, Z]]) M x [] none none (RetG ctx under_Possible_1.c.rs K) under_Possible_1.c.code := by
  have h := under_situation_values.r hg [] (by simp) (by simp)
  rw [List.append_nil, ← valO_some] at h
  rw [show sV cC [] = V.sl [] 0 from rfl] at h
  have hst := hZ.bf.stor
  have hce := hZ.bf.cells
  have hz := fz_bare hZ (m' := M.set x (some (.cells [sV cK cs, Z] false))) (fun j h1 h2 => by simp +contextual (disch := omega) [Nat.add_assoc, Int.add_assoc, if_pos, if_neg, -Int.not_lt, -Int.not_le, -Nat.not_lt, -Nat.not_le, -List.length_flatMap])
  simp +contextual (disch := omega) [Nat.add_assoc, Int.add_assoc, if_pos, if_neg, -Int.not_lt, -Int.not_le, -Nat.not_lt, -Nat.not_le, -List.length_flatMap, under_Possible_1.c, hst, hce]
  refine under_situation_values.fr ?_
  simp +contextual (disch := omega) [Nat.add_assoc, Int.add_assoc, if_pos, if_neg, -Int.not_lt, -Int.not_le, -Nat.not_lt, -Nat.not_le, -List.length_flatMap, hz]
  refine ansFK h ?_
  have h1 := Rw.out (valO z (clU cs z)) (M.set x (some (.cells [sV cK cs, Z] false))) (x + 4)
  have h2 := outC_lt (valO z (clU cs z)) (M.set x (some (.cells [sV cK cs, Z] false))) (x + 4)
  generalize valO z (clU cs z) = o at *
  simp +contextual (disch := omega) [Nat.add_assoc, Int.add_assoc, if_pos, if_neg, -Int.not_lt, -Int.not_le, -Nat.not_lt, -Nat.not_le, -List.length_flatMap]
  refine hret _ _ _ (by omega) (fun j hj => ?_) (h1.up (fun _ _ _ => rfl) (by omega) (by omega))
  rw [h2.2 j (by omega), Sto.sne _ _ _ _ (by omega)]
set_option maxRecDepth 20000 in
theorem under_Possible.a (cs : List Kn) (hc : ∀ c ∈ cs, c.Ok) (hl : cs.length ≤ 9223372036854775807) (p : Int) : Ans ctx under_Possible.n [sV cK cs, .i .i64 p] (possV cs p) := by
  refine ans under_Possible.f ?_
  have hR := under_Right.a cs hc hl p
  unfold possV
  cases hr : RightU cs p with
  | false =>
    rw [hr] at hR
    simp +contextual (disch := omega) [Nat.add_assoc, Int.add_assoc, if_pos, if_neg, -Int.not_lt, -Int.not_le, -Nat.not_lt, -Nat.not_le, -List.length_flatMap, under_Possible.c, ansK hR]
  | true =>
    rw [hr] at hR
    obtain ⟨n, rfl, hn, hg⟩ := RightU_ok hr hc
    have hnn : ((n : Int)).toNat = n := by omega
    rw [hnn]
    simp +contextual (disch := omega) [Nat.add_assoc, Int.add_assoc, if_pos, if_neg, -Int.not_lt, -Int.not_le, -Nat.not_lt, -Nat.not_le, -List.length_flatMap, under_Possible.c, ansK hR]
    rw [CallX_op (by rfl)]
    refine openg_w under_first.f rfl (.inl rfl) ?_
    have hff : ctx.frz under_first.n = false := rfl
    rw [hff]
    refine under_first.w hn cs _ rfl rfl (possAt cs n) ?_ ?_
    · intro k hk M y x Z K' hy hyx hM hZ hret
      have hff : ctx.frz under_Possible_1.n = false := rfl
      rw [CallX_op (by rfl)]
      refine openg_w under_Possible_1.f rfl (.inl rfl) ?_
      rw [hff]
      refine under_Possible_1.w (hg (caseP k n) (caseP_len k n)) hyx hZ ?_
      intro M' x' r hx' hM' hr
      exact hret M' x' r hx' (fun j hj => hM' j (by omega)) (hr.up (fun _ _ _ => rfl) hyx (Nat.le_refl _))
    · intro m' x' r hx' hm' hr
      have hrs := hr.stor
      obtain ⟨ids, hrz, _⟩ := hr.fz
      rw [show firstU (possAt cs n) (2 ^ n) = possU cs n from rfl] at hr hrz ⊢
      simp +contextual (disch := omega) [Nat.add_assoc, Int.add_assoc, if_pos, if_neg, -Int.not_lt, -Int.not_le, -Nat.not_lt, -Nat.not_le, -List.length_flatMap, hrs.1, hrs.2, hrz]
end Pi


set_option linter.unusedSimpArgs false
set_option linter.unusedVariables false
namespace Pi
theorem atomsO_bd {n : Nat} : ∀ (l : List Int) (i : Nat), i + l.length ≤ n + 1 → (∀ a ∈ l, a ≤ 11) → ∀ t ∈ atomsO l i, (i : Int) ≤ t.var ∧ t.var ≤ n ∧ 0 ≤ t.off ∧ t.off ≤ 11
  | [], _, _, _, t, h => by cases h
  | a :: r, i, hn, hl, t, h => by
    rw [List.length_cons] at hn
    unfold atomsO at h
    have ih := atomsO_bd (n := n) r (i + 1) (by omega) (fun b hb => hl b (List.mem_cons_of_mem _ hb)) t
    split at h
    · rename_i h0
      rcases List.mem_cons.1 h with rfl | h
      · have := hl a (by simp)
        exact ⟨by simp only; omega, by simp only; omega, h0, this⟩
      · have := ih h; omega
    · have := ih h; omega
theorem atomsF_bd {l : L} {z : List Bool} (hr : RightS l z.length 0 = true) : ∀ t ∈ atomsF (flattenF l z), 0 ≤ t.var ∧ t.var ≤ z.length ∧ 0 ≤ t.off ∧ t.off ≤ 12 := by
  obtain ⟨hp, hr'⟩ := RightS_ok (q := 0) hr
  have hbd := ofS_bd l z 12 hr'
  have hlen := flattenF_len hr
  intro t ht
  have hall : (flattenF l z).cst ≤ 12 ∧ 0 ≤ (flattenF l z).cst ∧ ∀ a ∈ (flattenF l z).offs, a ≤ 11 := by
    unfold flattenF
    split
    · exact ⟨by simp, by simp, fun a ha => (hbd.2.2 a ha).2⟩
    · exact ⟨by have := hbd.2.1.2; omega, hbd.2.1.1, fun a ha => (hbd.2.2 a ha).2⟩
  unfold atomsF at ht
  rcases List.mem_cons.1 ht with rfl | ht
  · exact ⟨by simp, by simp, hall.2.1, hall.1⟩
  · have := atomsO_bd (n := z.length) _ 1 (by omega) hall.2.2 t ht
    omega
def moreU (x : A) (l : List A) : List C := l.map fun y => ⟨[x], ⟨y.var, y.off + 1⟩⟩
theorem moreU_len (x : A) (l : List A) : (moreU x l).length = l.length := by simp [moreU]
theorem moreU_s (u : A) (l : List A) {j : Nat} (hj : j < l.length) : moreU u (l.take (j + 1)) = moreU u (l.take j) ++ [⟨[u], ⟨l[j].var, l[j].off + 1⟩⟩] := by
  unfold moreU
  rw [List.take_succ_eq_append_getElem hj, List.map_append]
  rfl
def leqAtU (cs : List Kn) (a b : L) (z : List Bool) : Option (List Int) := (atomsF (flattenF a z)).findSome? fun x => valO z (clU cs z ++ moreU x (atomsF (flattenF b z)))
def leqU (cs : List Kn) (a b : L) (n : Nat) : Option (List Int) := firstU (fun k => leqAtU cs a b (caseP k n)) (2 ^ n)
def leqRU (cs : List Kn) (p : Int) (a b : L) : Bool := RightU cs p && RightS a p 0 && RightS b p 0
def leqBU (cs : List Kn) (p : Int) (a b : L) : Bool := leqRU cs p a b && !(leqU cs a b p.toNat).isSome
def leqOU (cs : List Kn) (p : Int) (a b : L) : Option (List Int) := if leqRU cs p a b = true then leqU cs a b p.toNat else none
def leqEU (cs : List Kn) (p : Int) (a b : L) : Int := if leqRU cs p a b = true then 0 else 1
theorem findSome_at {α β : Type} {g : α → Option β} {l : List α} {i : Nat} {v : β} (hi : i < l.length) (h0 : ∀ u ∈ l.take i, g u = none) (h1 : g l[i] = some v) : l.findSome? g = some v := by
  have e : l = l.take i ++ l[i] :: l.drop (i + 1) := by rw [← List.drop_eq_getElem_cons hi, List.take_append_drop]
  rw [e, List.findSome?_append, List.findSome?_eq_none_iff.2 h0, List.findSome?_cons, h1]
  rfl
set_option maxRecDepth 20000 in
set_option maxHeartbeats 4000000 in
theorem under_Leq_1.w {cs : List Kn} {z : List Bool} (hg : GoodKs cs z) {a b : L} (oka : a.Ok) (okb : b.Ok) (hra : RightS a z.length 0 = true) (hrb : RightS b z.length 0 = true) {pa pb y x : Nat} {M : Sto} {Z : V} {K : CR → Sto → Nat → Prop}
    (ha : M pa = some (.cells (cL a) false)) (hb : M pb = some (.cells (cL b) false)) (hay : pa < y) (hby : pb < y) (hyx : y ≤ x) (hZ : Zm M Z z y x)
    (hret : ∀ M' x' r, x ≤ x' → (∀ j, j < y → M' j = M j) → Rw r (leqAtU cs a b z) M' x x' → K (.ret (.tu [r, .b (leqAtU cs a b z).isSome])) M' x') :
    Pi.w ctx (envOf [.ag [sV cK cs, Z], .p pa 0, .p pb 0]) M x [] none none (RetG ctx under_Leq_1.c.rs K) under_Leq_1.c.code := by
  have hA := under_situation_atoms.a cs z a oka hra
  have hB := under_situation_atoms.a cs z b okb hrb
  have hst := hZ.bf.stor
  have hce := hZ.bf.cells
  have hni : ∀ j, j < y → j ∉ refOf Z := fun j hj h => by
    rcases hZ with ⟨rfl, _⟩ | ⟨b, rfl, _, h2, h3⟩
    · simp [refOf] at h
    · simp [refOf] at h; omega
  have hni2 : ∀ j, x ≤ j → j ∉ refOf Z := fun j hj h => by
    rcases hZ with ⟨rfl, _⟩ | ⟨b, rfl, _, h2, h3⟩
    · simp [refOf] at h
    · simp [refOf] at h; omega
  have hfz := fun m' h => fz_bare hZ (m' := m') h
  obtain ⟨la, hla⟩ : ∃ la, la = atomsF (flattenF a z) := ⟨_, rfl⟩
  obtain ⟨lb, hlb⟩ : ∃ lb, lb = atomsF (flattenF b z) := ⟨_, rfl⟩
  have hz5 := hg.1
  have hll : la.length ≤ 6 ∧ lb.length ≤ 6 := by
    have h1 := atomsF_len (flattenF a z)
    have h2 := atomsF_len (flattenF b z)
    rw [flattenF_len hra] at h1
    rw [flattenF_len hrb] at h2
    rw [hla, hlb]
    omega
  have hbd : ∀ t ∈ lb, 0 ≤ t.var ∧ t.var ≤ z.length ∧ 0 ≤ t.off ∧ t.off ≤ 12 := by rw [hlb]; exact atomsF_bd hrb
  obtain ⟨g, hgd⟩ : ∃ g : A → Option (List Int), g = fun u => valO z (clU cs z ++ moreU u lb) := ⟨_, rfl⟩
  have hres : leqAtU cs a b z = la.findSome? g := by unfold leqAtU; rw [hgd, hla, hlb]
  rw [hres] at hret
  rw [← hla] at hA
  rw [← hlb] at hB
  have hgo : ∀ u, g u = valO z (clU cs z ++ moreU u lb) := fun u => by rw [hgd]
  clear hres hgd hla hlb
  obtain ⟨M1, hM1⟩ : ∃ M1, M1 = M.set x (some (.cells [sV cK cs, Z] false)) := ⟨_, rfl⟩
  have u0 : ∀ j, j < x → M1 j = M j := fun j hj => by rw [hM1, Sto.sne _ _ _ _ (by omega)]
  have ux : M1 x = some (.cells [sV cK cs, Z] false) := by rw [hM1, Sto.seq]
  have hz1 := hfz M1 (fun j h1 h2 => by rw [u0 j h2])
  obtain ⟨M2, hM2⟩ : ∃ M2, M2 = aft (sV cA la) M1 (refOf Z) := ⟨_, rfl⟩
  have w0 : ∀ j, j < y → M2 j = M j := fun j hj => by rw [hM2, aft_none _ _ _ _ (hni j hj), u0 j (by omega)]
  have wb : ∀ j, y ≤ j → j < x → bare (M2 j) = bare (M j) := fun j h1 h2 => by rw [hM2, bare_aft, u0 j h2]
  have wx : M2 x = some (.cells [sV cK cs, Z] false) := by rw [hM2, aft_none _ _ _ _ (hni2 x (by omega)), ux]
  simp +contextual (disch := omega) [Nat.add_assoc, Int.add_assoc, if_pos, if_neg, -Int.not_lt, -Int.not_le, -Nat.not_lt, -Nat.not_le, -List.length_flatMap, under_Leq_1.c, hst, hce, hM1.symm, ux, (u0 pa (by omega)).trans ha, hz1, ansK hA, hM2.symm]
  refine for_w (fun i e m x' => e 1 = .p pa 0 ∧ e 2 = .p pb 0 ∧ e 3 = .p x 0 ∧ e 15 = sV cA la ∧ e 16 = .i .i64 la.length ∧ e 17 = .i .i64 i ∧ x + 1 ≤ x' ∧ (∀ j, j < y → m j = M j) ∧ (∀ j, y ≤ j → j < x → bare (m j) = bare (M j)) ∧ m x = some (.cells [sV cK cs, Z] false) ∧ ∀ u ∈ la.take i, g u = none) la.length ?_ ?_ ?_
  · simp +contextual (disch := omega) [Nat.add_assoc, Int.add_assoc, if_pos, if_neg, -Int.not_lt, -Int.not_le, -Nat.not_lt, -Nat.not_le, -List.length_flatMap]
    exact ⟨w0, wb, wx⟩
  · rintro i e m x' hi ⟨g1, g2, g3, g15, g16, g17, gx, m0, mb, mx, gn⟩
    simp +contextual (disch := omega) [Nat.add_assoc, Int.add_assoc, if_pos, if_neg, -Int.not_lt, -Int.not_le, -Nat.not_lt, -Nat.not_le, -List.length_flatMap, under_Leq_1.b2, g1, g2, g3, g15, g16, g17, hi, mx, m0 pb hby, hb, hst, hce]
    generalize hM3 : Sto.set (Sto.set m (x' + 3) _) (x' + 3) _ = M3
    have t0 : ∀ j, j < x' + 3 → M3 j = m j := fun j hj => by rw [← hM3]; simp +contextual (disch := omega) [Nat.add_assoc, Int.add_assoc, if_pos, if_neg, -Int.not_lt, -Int.not_le, -Nat.not_lt, -Nat.not_le, -List.length_flatMap]
    have t3 : M3 (x' + 3) = some (.cells (cA la[i]) false) := by rw [← hM3]; simp +contextual (disch := omega) [Nat.add_assoc, Int.add_assoc, if_pos, if_neg, -Int.not_lt, -Int.not_le, -Nat.not_lt, -Nat.not_le, -List.length_flatMap]
    clear hM3
    have hz3 := hfz M3 (fun j h1 h2 => by rw [t0 j (by omega), mb j h1 h2])
    obtain ⟨M4, hM4⟩ : ∃ M4, M4 = aft (sV cA lb) M3 (refOf Z) := ⟨_, rfl⟩
    have s0 : ∀ j, j < y → M4 j = M j := fun j hj => by rw [hM4, aft_none _ _ _ _ (hni j hj), t0 j (by omega), m0 j hj]
    have sb : ∀ j, y ≤ j → j < x → bare (M4 j) = bare (M j) := fun j h1 h2 => by rw [hM4, bare_aft, t0 j (by omega), mb j h1 h2]
    have sx : M4 x = some (.cells [sV cK cs, Z] false) := by rw [hM4, aft_none _ _ _ _ (hni2 x (by omega)), t0 x (by omega), mx]
    have s3 : M4 (x' + 3) = some (.cells (cA la[i]) false) := by rw [hM4, aft_none _ _ _ _ (hni2 _ (by omega)), t3]
    simp +contextual (disch := omega) [Nat.add_assoc, Int.add_assoc, if_pos, if_neg, -Int.not_lt, -Int.not_le, -Nat.not_lt, -Nat.not_le, -List.length_flatMap, hz3, ansK hB, hM4.symm]
    clear hM4 hz3
    refine for_w (fun j e m' xx => e 1 = .p pa 0 ∧ e 2 = .p pb 0 ∧ e 3 = .p x 0 ∧ e 7 = .p (x' + 3) 0 ∧ e 15 = sV cA la ∧ e 16 = .i .i64 la.length ∧ e 17 = .i .i64 i ∧ e 23 = sV cA lb ∧ e 24 = .i .i64 lb.length ∧ e 25 = .i .i64 j ∧ x' + 10 ≤ xx ∧ (∀ q, q < x' + 10 → m' q = M4 q) ∧ ∃ fs, Xc m' (e 8) (moreU la[i] (lb.take j)) fs (x' + 10) xx) lb.length ?_ ?_ ?_
    · simp +contextual (disch := omega) [Nat.add_assoc, Int.add_assoc, if_pos, if_neg, -Int.not_lt, -Int.not_le, -Nat.not_lt, -Nat.not_le, -List.length_flatMap, g1, g2, g3, g15, g16, g17]
      exact ⟨_, Xc.nil⟩
    · rintro j e m' xx hj ⟨q1, q2, q3, q7, q15, q16, q17, q23, q24, q25, qx, qm, fs, qX⟩
      have hs1 := moreU_s la[i] lb hj
      have hln := moreU_len la[i] (lb.take j)
      rw [List.length_take] at hln
      have hst8 := qX.rc.stor
      have hsc8 := qX.rc.cells
      rw [hs1]
      generalize hV8 : e 8 = V8 at *
      have bj := hbd _ (List.getElem_mem hj)
      generalize la[i] = u at *
      generalize moreU u (lb.take j) = pre at *
      simp +contextual (disch := omega) [Nat.add_assoc, Int.add_assoc, if_pos, if_neg, -Int.not_lt, -Int.not_le, -Nat.not_lt, -Nat.not_le, -List.length_flatMap, under_Leq_1.b1, q1, q2, q3, q7, q15, q16, q17, q23, q24, q25, hj, hV8, qm (x' + 3) (by omega), s3, hst8, hsc8, -apV_ns]
      generalize hN : Sto.set (Sto.set (Sto.set (Sto.set m' (xx + 3) _) (xx + 3) _) (xx + 7) _) (xx + 15) _ = N
      have n0 : ∀ q, q < xx → N q = m' q := fun q hq => by rw [← hN]; simp +contextual (disch := omega) [Nat.add_assoc, Int.add_assoc, if_pos, if_neg, -Int.not_lt, -Int.not_le, -Nat.not_lt, -Nat.not_le, -List.length_flatMap]
      have n7 : N (xx + 7) = some (.cells (cA u) false) := by rw [← hN]; simp +contextual (disch := omega) [Nat.add_assoc, Int.add_assoc, if_pos, if_neg, -Int.not_lt, -Int.not_le, -Nat.not_lt, -Nat.not_le, -List.length_flatMap]
      clear hN
      have hF : Bf N (.ms (xx + 7) 0 1 2) cA 2 [u] (xx + 7) (xx + 8) := Bf.mem n7 (by simp) rfl (by omega) (by omega)
      refine qX.ap (dl := [⟨[u], ⟨lb[j].var, lb[j].off + 1⟩⟩]) (gs := [.ms (xx + 7) 0 1 2]) (lo := x' + 10) (fun q h1 h2 => n0 q (by omega)) (by omega) (by omega) (by omega) rfl rfl ⟨(Rl.Bf hF).mono (fun q hq => by omega), trivial⟩ (by simp; omega) ?_
      intro B' ws N2 z0 z1 z2 z3
      simp +contextual (disch := omega) [Nat.add_assoc, Int.add_assoc, if_pos, if_neg, -Int.not_lt, -Int.not_le, -Nat.not_lt, -Nat.not_le, -List.length_flatMap, z0, q1, q2, q3, q7, q15, q16, q17, q23, q24, q25]
      refine ⟨by omega, fun q hq => by rw [z2 q (by omega), n0 q (by omega), qm q hq], _, z1.up (Nat.le_refl _) (by omega) (fun _ _ _ => rfl)⟩
    · rintro e m' xx ⟨q1, q2, q3, q7, q15, q16, q17, q23, q24, q25, qx, qm, fs, qX⟩
      rw [List.take_length] at qX
      have hln := moreU_len la[i] lb
      have hV := under_situation_values.r hg (moreU la[i] lb) (by omega) (fun c hc => by
        obtain ⟨t, _, rfl⟩ := List.mem_map.1 hc
        simp)
      have ho1 := hgo la[i]
      rw [← valO_some, ← ho1] at hV
      obtain ⟨ids, hzX, hids⟩ := qX.rc.fz24
      have hst8 := qX.rc.stor
      have hsc8 := qX.rc.cells
      have hz5' := hfz m' (fun q h1 h2 => by rw [qm q (by omega), sb q h1 h2])
      have hR := Rw.out (g la[i]) m' (xx + 3)
      have hC := outC_lt (g la[i]) m' (xx + 3)
      generalize hV8 : e 8 = V8 at *
      simp +contextual (disch := omega) [Nat.add_assoc, Int.add_assoc, if_pos, if_neg, -Int.not_lt, -Int.not_le, -Nat.not_lt, -Nat.not_le, -List.length_flatMap, under_Leq_1.b1, q1, q2, q3, q7, q15, q16, q17, q23, q24, q25, hV8, hst8, hsc8, qm x (by omega), sx]
      refine under_situation_values.fr ?_
      simp +contextual (disch := omega) [Nat.add_assoc, Int.add_assoc, if_pos, if_neg, -Int.not_lt, -Int.not_le, -Nat.not_lt, -Nat.not_le, -List.length_flatMap, hz5', hzX]
      refine ansFK hV ?_
      have hM0 : ∀ j, j < y → fM m' (xx + 3) (outC (g la[i])) j = M j := fun j hj => by rw [hC.2 j (by omega), qm j (by omega), s0 j hj]
      have hMb : ∀ j, y ≤ j → j < x → bare (fM m' (xx + 3) (outC (g la[i])) j) = bare (M j) := fun j h1 h2 => by rw [hC.2 j (by omega), qm j (by omega), sb j h1 h2]
      have hMx : fM m' (xx + 3) (outC (g la[i])) x = some (.cells [sV cK cs, Z] false) := by rw [hC.2 x (by omega), qm x (by omega), sx]
      generalize fM m' (xx + 3) (outC (g la[i])) = M5 at *
      generalize fX (xx + 3) (outC (g la[i])) = x5 at *
      cases hgi : g la[i] with
      | none =>
        simp +contextual (disch := omega) [Nat.add_assoc, Int.add_assoc, if_pos, if_neg, -Int.not_lt, -Int.not_le, -Nat.not_lt, -Nat.not_le, -List.length_flatMap, q1, q2, q3, q7, q15, q16, q17, q23, q24, q25]
        refine ⟨by omega, hM0, hMb, hMx, fun u hu => ?_⟩
        rw [List.take_succ_eq_append_getElem hi, List.mem_append, List.mem_singleton] at hu
        rcases hu with h | rfl
        · exact gn u h
        · exact hgi
      | some v =>
        simp +contextual (disch := omega) [Nat.add_assoc, Int.add_assoc, if_pos, if_neg, -Int.not_lt, -Int.not_le, -Nat.not_lt, -Nat.not_le, -List.length_flatMap, q1, q2, q3, q7, q15, q16, q17, q23, q24, q25]
        rw [findSome_at hi gn hgi] at hret
        rw [hgi] at hR
        exact hret _ _ _ (by omega) hM0 (hR.up (fun _ _ _ => rfl) (by omega) (by omega))
  · rintro e m x' ⟨g1, g2, g3, g15, g16, g17, gx, m0, mb, mx, gn⟩
    rw [List.take_length] at gn
    rw [List.findSome?_eq_none_iff.2 gn] at hret
    simp +contextual (disch := omega) [Nat.add_assoc, Int.add_assoc, if_pos, if_neg, -Int.not_lt, -Int.not_le, -Nat.not_lt, -Nat.not_le, -List.length_flatMap, under_Leq_1.b2, g1, g2, g3, g15, g16, g17]
    exact hret _ _ _ (by omega) m0 (.inl ⟨rfl, rfl⟩)
set_option maxRecDepth 20000 in
set_option maxHeartbeats 4000000 in
theorem under_Leq.r (cs : List Kn) (hc : ∀ c ∈ cs, c.Ok) (hl : cs.length ≤ 9223372036854775807) (p : Int) (a b : L) (oka : a.Ok) (okb : b.Ok) : AnsF ctx under_Leq.n [sV cK cs, .i .i64 p, .ag (cL a), .ag (cL b)] (fun x => .tu [.b (leqBU cs p a b), outU (leqOU cs p a b) x, .i .i64 (leqEU cs p a b)]) (outC (leqOU cs p a b)) := by
  refine ansf under_Leq.f ?_
  have hR := under_Right.a cs hc hl p
  have hA := level_Right.a a oka p 0
  have hB := level_Right.a b okb p 0
  unfold leqBU leqOU leqEU leqRU
  cases hr : RightU cs p with
  | false =>
    rw [hr] at hR
    simp +contextual (disch := omega) [Nat.add_assoc, Int.add_assoc, if_pos, if_neg, -Int.not_lt, -Int.not_le, -Nat.not_lt, -Nat.not_le, -List.length_flatMap, under_Leq.c, ansK hR]
    exact FrR_nil3 rfl _ _ _
  | true =>
    rw [hr] at hR
    cases h1 : RightS a p 0 with
    | false =>
      rw [h1] at hA
      simp +contextual (disch := omega) [Nat.add_assoc, Int.add_assoc, if_pos, if_neg, -Int.not_lt, -Int.not_le, -Nat.not_lt, -Nat.not_le, -List.length_flatMap, under_Leq.c, ansK hR, ansK hA]
      exact FrR_nil3 rfl _ _ _
    | true =>
      rw [h1] at hA
      cases h2 : RightS b p 0 with
      | false =>
        rw [h2] at hB
        simp +contextual (disch := omega) [Nat.add_assoc, Int.add_assoc, if_pos, if_neg, -Int.not_lt, -Int.not_le, -Nat.not_lt, -Nat.not_le, -List.length_flatMap, under_Leq.c, ansK hR, ansK hA, ansK hB]
        exact FrR_nil3 rfl _ _ _
      | true =>
        rw [h2] at hB
        obtain ⟨n, rfl, hn, hg⟩ := RightU_ok hr hc
        have hnn : ((n : Int)).toNat = n := by omega
        rw [hnn]
        simp +contextual (disch := omega) [Nat.add_assoc, Int.add_assoc, if_pos, if_neg, -Int.not_lt, -Int.not_le, -Nat.not_lt, -Nat.not_le, -List.length_flatMap, under_Leq.c, ansK hR, ansK hA, ansK hB]
        rw [CallX_op (by rfl)]
        refine openg_w under_first.f rfl (.inl rfl) ?_
        have hff : ctx.frz under_first.n = false := rfl
        rw [hff]
        refine under_first.w hn cs _ rfl rfl (fun k => leqAtU cs a b (caseP k n)) ?_ ?_
        · intro k hk M y x Z K' hy hyx hM hZ hret
          have m0 : M 0 = some (.cells (cL a) false) := by rw [hM 0 (by omega)]; simp +contextual (disch := omega) [Nat.add_assoc, Int.add_assoc, if_pos, if_neg, -Int.not_lt, -Int.not_le, -Nat.not_lt, -Nat.not_le, -List.length_flatMap]
          have m1 : M 1 = some (.cells (cL b) false) := by rw [hM 1 (by omega)]; simp +contextual (disch := omega) [Nat.add_assoc, Int.add_assoc, if_pos, if_neg, -Int.not_lt, -Int.not_le, -Nat.not_lt, -Nat.not_le, -List.length_flatMap]
          have hff : ctx.frz under_Leq_1.n = false := rfl
          rw [CallX_op (by rfl)]
          refine openg_w under_Leq_1.f rfl (.inl rfl) ?_
          rw [hff]
          refine under_Leq_1.w (hg (caseP k n) (caseP_len k n)) oka okb (by rw [caseP_len]; exact h1) (by rw [caseP_len]; exact h2) m0 m1 (by omega) (by omega) hyx hZ ?_
          intro M' x' r hx' hM' hr
          exact hret M' x' r hx' hM' (hr.up (fun _ _ _ => rfl) hyx (Nat.le_refl _))
        · intro m' x' r hx' hm' hr
          have hrs := hr.stor
          rw [show firstU (fun k => leqAtU cs a b (caseP k n)) (2 ^ n) = leqU cs a b n from rfl] at hr ⊢
          simp +contextual (disch := omega) [Nat.add_assoc, Int.add_assoc, if_pos, if_neg, -Int.not_lt, -Int.not_le, -Nat.not_lt, -Nat.not_le, -List.length_flatMap, hrs.1, hrs.2]
          exact (hr.up (fun _ _ _ => rfl) (Nat.le_refl _) (Nat.le_refl _)).frr _ _
end Pi

