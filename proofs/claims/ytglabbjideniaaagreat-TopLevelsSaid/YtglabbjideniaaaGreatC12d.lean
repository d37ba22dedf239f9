/- Contracts: constraints (layer 12): the first case of which something is told. -/
import Derived.Test.YtglabbjideniaaaGreatC07a
import Derived.Test.YtglabbjideniaaaGreatC09d
set_option linter.unusedSimpArgs false
set_option linter.unusedVariables false
namespace Pi
def firstU (f : Nat → Option (List Int)) (N : Nat) : Option (List Int) := (List.range N).findSome? f
theorem firstU_s (f : Nat → Option (List Int)) (k : Nat) : firstU f (k + 1) = (firstU f k).or (f k) := by
  unfold firstU
  rw [List.range_succ, List.findSome?_append]
  simp
theorem firstU_none {f : Nat → Option (List Int)} {k : Nat} (h : firstU f k = none) : ∀ N, k ≤ N → ∀ v, f k = some v → k < N → firstU f N = some v := by
  intro N
  induction N with
  | zero => intro _ v _ h; omega
  | succ N ih =>
    intro hkN v hv hk
    rw [firstU_s]
    by_cases e : k = N
    · subst e; rw [h, hv]; rfl
    · rw [ih (by omega) v hv (by omega)]; rfl
/-- A list of numbers of its own in memory, from y on, or nil. -/
def Rw (r : V) (o : Option (List Int)) (m : Sto) (y x : Nat) : Prop := (r = .ns ∧ o.getD [] = []) ∨ (o.getD [] ≠ [] ∧ ∃ b, r = .ms b 0 (o.getD []).length 1 ∧ m b = some (.cells ((o.getD []).flatMap cI) false) ∧ y ≤ b ∧ b < x)
theorem Rw.stor {r : V} {o : Option (List Int)} {m : Sto} {y x : Nat} (h : Rw r o m y x) : r.stor = true ∧ r.cells = [r] := by
  rcases h with ⟨rfl, _⟩ | ⟨_, b, rfl, _⟩ <;> exact ⟨rfl, rfl⟩
theorem Rw.up {r : V} {o : Option (List Int)} {m m' : Sto} {y y' x x' : Nat} (h : Rw r o m y x) (hm : ∀ j, y ≤ j → j < x → m' j = m j) (hy : y' ≤ y) (hx : x ≤ x') : Rw r o m' y' x' := by
  rcases h with h | ⟨h0, b, h1, h2, h3, h4⟩
  · exact .inl h
  · exact .inr ⟨h0, b, h1, (hm b h3 h4).trans h2, by omega, by omega⟩
theorem Rw.fz {r : V} {o : Option (List Int)} {m : Sto} {y x : Nat} (h : Rw r o m y x) : ∃ ids, frzW (der m 40) r = some (sV cI (o.getD []), ids) ∧ ∀ j ∈ ids, y ≤ j ∧ j < x := by
  rcases h with ⟨rfl, h⟩ | ⟨_, b, rfl, h2, h3, h4⟩
  · rw [h]; exact ⟨[], rfl, fun j hj => by cases hj⟩
  · have hB : Bf m (.ms b 0 (o.getD []).length 1) cI 1 (o.getD []) b (b + 1) := Bf.mem h2 rfl rfl (by omega) (by omega)
    exact ⟨_, hB.fz24, fun j hj => by simp [refOf] at hj; omega⟩
theorem Rw.out (o : Option (List Int)) (m : Sto) (x : Nat) : Rw (outU o x) o (fM m x (outC o)) x (fX x (outC o)) := by
  unfold outU outC
  by_cases h : o.getD [] = []
  · rw [if_pos h]; exact .inl ⟨rfl, h⟩
  · rw [if_neg h, if_neg h]
    exact .inr ⟨h, x, rfl, by simp, Nat.le_refl _, by simp⟩
theorem Rw.frr {r : V} {o : Option (List Int)} {m : Sto} {y x : Nat} (h : Rw r o m y x) (b : Bool) (n : Int) : FrR (fun x => .tu [.b b, outU o x, .i .i64 n]) (outC o) (.tu [.b b, r, .i .i64 n]) m := by
  rcases h with ⟨rfl, h⟩ | ⟨h0, k, rfl, h2, _⟩
  · exact FrR_nil3 h b n m
  · cases o with
    | none => exact absurd rfl h0
    | some l => exact FrR_cons3 rfl h0 b n h2
theorem outC_lt (o : Option (List Int)) (m : Sto) (x : Nat) : x ≤ fX x (outC o) ∧ ∀ j, j < x → fM m x (outC o) j = m j := by
  unfold outC
  split
  · exact ⟨Nat.le_refl _, fun _ _ => rfl⟩
  · exact ⟨by simp, fun j hj => by simp [Sto.sne _ _ _ _ (by omega : j ≠ x)]⟩
set_option maxRecDepth 20000 in
set_option maxHeartbeats 2000000 in
theorem under_first.w {n : Nat} (hn : n ≤ 5) (cs : List Kn) (G : V) (hG1 : G.stor = true) (hG2 : G.cells = [G]) (f : Nat → Option (List Int)) {m : Sto} {x0 : Nat} {K : CR → Sto → Nat → Prop}
    (hG : ∀ k, k < 2 ^ n → ∀ M y x Z K', x0 ≤ y → y ≤ x → (∀ j, j < x0 → M j = m j) → Zm M Z (caseP k n) y x →
      (∀ M' x' r, x ≤ x' → (∀ j, j < y → M' j = M j) → Rw r (f k) M' y x' → K' (.ret (.tu [r, .b (f k).isSome])) M' x') → CallX ctx G [.ag [sV cK cs, Z]] M x K')
    (hK : ∀ m' x' r, x0 ≤ x' → (∀ j, j < x0 → m' j = m j) → Rw r (firstU f (2 ^ n)) m' x0 x' → K (.ret (.tu [r, .b (firstU f (2 ^ n)).isSome])) m' x') :
    Pi.w ctx (envOf [sV cK cs, .i .i64 n, G]) m x0 [] none none (RetG ctx under_first.c.rs K) under_first.c.code := by
  simp +contextual (disch := omega) [Nat.add_assoc, Int.add_assoc, if_pos, if_neg, -Int.not_lt, -Int.not_le, -Nat.not_lt, -Nat.not_le, -List.length_flatMap, under_first.c, hG1, hG2]
  rw [CallX_op (by rfl)]
  refine openg_w rfl rfl (.inl rfl) ?_
  have hfa : ctx.frz leq_All.n = false := rfl
  rw [hfa]
  simp +contextual (disch := omega) [Nat.add_assoc, Int.add_assoc, if_pos, if_neg, -Int.not_lt, -Int.not_le, -Nat.not_lt, -Nat.not_le, -List.length_flatMap, leq_All.c]
  refine gen_e (fun E => E 3 = .p x0 0 ∧ E 5 = .p (x0 + 1) 0 ∧ E 6 = .p (x0 + 2) 0 ∧ E 7 = .p (x0 + 3) 0 ∧ E 12 = .fn (.func leq_All_1.n) [] [.p (x0 + 5) 0]) (by simp +contextual (disch := omega) [Nat.add_assoc, Int.add_assoc, if_pos, if_neg, -Int.not_lt, -Int.not_le, -Nat.not_lt, -Nat.not_le, -List.length_flatMap]) ?_
  rintro E ⟨E3, E5, E6, E7, E12⟩
  refine rf_g fun A B hA hB => ?_
  simp +contextual (disch := omega) [Nat.add_assoc, Int.add_assoc, if_pos, if_neg, -Int.not_lt, -Int.not_le, -Nat.not_lt, -Nat.not_le, -List.length_flatMap, E12]
  refine leq_All_1.w hn (fun k m1 x => m1 (x0 + 5) = some (.cells [.i .i64 n] false) ∧ m1 (x0 + 9) = some .dfr ∧ m1 (x0 + 10) = some (.loop ⟨E, [13], A, B, .ready, none⟩) ∧ m1 x0 = some (.cells [sV cK cs] false) ∧ m1 (x0 + 1) = some (.cells [G] false) ∧
      m1 (x0 + 2) = some (.cells [.ns] false) ∧ m1 (x0 + 3) = some (.cells [.b false] false) ∧ (∀ j, j < x0 → m1 j = m j) ∧ firstU f k = none)
    (fun m1 x => m1 (x0 + 9) = some .dfr ∧ m1 (x0 + 10) = some (.loop ⟨E, [13], A, B, .done, some .ret⟩) ∧ m1 (x0 + 3) = some (.cells [.b true] false) ∧ (∀ j, j < x0 → m1 j = m j) ∧ ∃ v r, firstU f (2 ^ n) = some v ∧ Rw r (some v) m1 (x0 + 11) x ∧ m1 (x0 + 2) = some (.cells [r] false)) ?_ ?_ ?_ ?_ ?_ ?_ ?_
  · rintro k m1 x ⟨q, _⟩
    exact q
  · rintro k m1 x m' x' hx ⟨q5, q9, q10, q0, q1, q2, q3, qj, qn⟩ hxx h
    exact ⟨(h _ (by omega)).trans q5, (h _ (by omega)).trans q9, (h _ (by omega)).trans q10, (h _ (by omega)).trans q0, (h _ (by omega)).trans q1, (h _ (by omega)).trans q2, (h _ (by omega)).trans q3, fun j hj => (h _ (by omega)).trans (qj j hj), qn⟩
  · refine ⟨?_, ?_, ?_, ?_, ?_, ?_, ?_, fun j hj => ?_, rfl⟩ <;> simp +contextual (disch := omega) [Nat.add_assoc, Int.add_assoc, if_pos, if_neg, -Int.not_lt, -Int.not_le, -Nat.not_lt, -Nat.not_le, -List.length_flatMap]
  · rintro m1 x x' ⟨q9, q10, q3, qj, v, r, hv, hr, q2⟩ hx
    exact ⟨q9, q10, q3, qj, v, r, hv, hr.up (fun _ _ _ => rfl) (Nat.le_refl _) hx, q2⟩
  · rintro k hk m1 y x Z K' hy hyx ⟨q5, q9, q10, q0, q1, q2, q3, qj, qn⟩ hZ ht hf'
    have hst := hZ.bf.stor
    have hce := hZ.bf.cells
    refine yield_w q10 rfl rfl ?_
    refine w_as hA ?_
    simp +contextual (disch := omega) [Nat.add_assoc, Int.add_assoc, if_pos, if_neg, -Int.not_lt, -Int.not_le, -Nat.not_lt, -Nat.not_le, -List.length_flatMap, under_first.a1, q10]
    refine w_as hB ?_
    generalize hM1 : Sto.set m1 (x0 + 10) _ = M1
    have v10 : M1 (x0 + 10) = some (.loop ⟨E, [13], A, B, .busy, none⟩) := by rw [← hM1]; simp +contextual (disch := omega) [Nat.add_assoc, Int.add_assoc, if_pos, if_neg, -Int.not_lt, -Int.not_le, -Nat.not_lt, -Nat.not_le, -List.length_flatMap]
    have vo : ∀ j, j ≠ x0 + 10 → M1 j = m1 j := fun j hj => by rw [← hM1, Sto.sne _ _ _ _ hj]
    have vZ : Zm M1 Z (caseP k n) y x := by
      rcases hZ with h | ⟨b, e1, e2, e3, e4⟩
      · exact .inl h
      · exact .inr ⟨b, e1, by rw [vo b (by omega), e2], e3, e4⟩
    clear hM1
    have v0 := (vo x0 (by omega)).trans q0
    have v1 := (vo (x0 + 1) (by omega)).trans q1
    simp +contextual (disch := omega) [Nat.add_assoc, Int.add_assoc, if_pos, if_neg, -Int.not_lt, -Int.not_le, -Nat.not_lt, -Nat.not_le, -List.length_flatMap, under_first.b2, E3, E5, v0, v1, hst, hce]
    refine hG k hk M1 y (x + 5) Z _ (by omega) (by omega) (fun j hj => by rw [vo j (by omega), qj j hj]) (by
      rcases vZ with h | ⟨b, e1, e2, e3, e4⟩
      · exact .inl h
      · exact .inr ⟨b, e1, e2, e3, by omega⟩) ?_
    intro M' x' r hx' hM' hr
    have hrs := hr.stor
    have w2 := ((hM' (x0 + 2) (by omega)).trans (vo _ (by omega))).trans q2
    have w3 := ((hM' (x0 + 3) (by omega)).trans (vo _ (by omega))).trans q3
    have w10 := (hM' (x0 + 10) (by omega)).trans v10
    have wo : ∀ j, j < y → j ≠ x0 + 10 → M' j = m1 j := fun j h1 h2 => (hM' j h1).trans (vo j h2)
    cases hf : f k with
    | none =>
      rw [hf] at hr
      simp +contextual (disch := omega) [Nat.add_assoc, Int.add_assoc, if_pos, if_neg, -Int.not_lt, -Int.not_le, -Nat.not_lt, -Nat.not_le, -List.length_flatMap, w10]
      refine ht _ _ (by omega) ⟨?_, ?_, ?_, ?_, ?_, ?_, ?_, fun j hj => ?_, ?_⟩
      · simp +contextual (disch := omega) [Nat.add_assoc, Int.add_assoc, if_pos, if_neg, -Int.not_lt, -Int.not_le, -Nat.not_lt, -Nat.not_le, -List.length_flatMap, wo (x0 + 5) (by omega) (by omega), q5]
      · simp +contextual (disch := omega) [Nat.add_assoc, Int.add_assoc, if_pos, if_neg, -Int.not_lt, -Int.not_le, -Nat.not_lt, -Nat.not_le, -List.length_flatMap, wo (x0 + 9) (by omega) (by omega), q9]
      · simp +contextual (disch := omega) [Nat.add_assoc, Int.add_assoc, if_pos, if_neg, -Int.not_lt, -Int.not_le, -Nat.not_lt, -Nat.not_le, -List.length_flatMap]
      · simp +contextual (disch := omega) [Nat.add_assoc, Int.add_assoc, if_pos, if_neg, -Int.not_lt, -Int.not_le, -Nat.not_lt, -Nat.not_le, -List.length_flatMap, wo x0 (by omega) (by omega), q0]
      · simp +contextual (disch := omega) [Nat.add_assoc, Int.add_assoc, if_pos, if_neg, -Int.not_lt, -Int.not_le, -Nat.not_lt, -Nat.not_le, -List.length_flatMap, wo (x0 + 1) (by omega) (by omega), q1]
      · simp +contextual (disch := omega) [Nat.add_assoc, Int.add_assoc, if_pos, if_neg, -Int.not_lt, -Int.not_le, -Nat.not_lt, -Nat.not_le, -List.length_flatMap, w2]
      · simp +contextual (disch := omega) [Nat.add_assoc, Int.add_assoc, if_pos, if_neg, -Int.not_lt, -Int.not_le, -Nat.not_lt, -Nat.not_le, -List.length_flatMap, w3]
      · simp +contextual (disch := omega) [Nat.add_assoc, Int.add_assoc, if_pos, if_neg, -Int.not_lt, -Int.not_le, -Nat.not_lt, -Nat.not_le, -List.length_flatMap, wo j (by omega) (by omega), qj j hj]
      · rw [firstU_s, qn, hf]; rfl
    | some v =>
      rw [hf] at hr
      simp +contextual (disch := omega) [Nat.add_assoc, Int.add_assoc, if_pos, if_neg, -Int.not_lt, -Int.not_le, -Nat.not_lt, -Nat.not_le, -List.length_flatMap, w10, E6, E7, w2, w3, hrs.1, hrs.2]
      refine hf' _ _ (by omega) ⟨?_, ?_, ?_, fun j hj => ?_, v, r, firstU_none qn _ (by omega) v hf hk, hr.up (fun j h1 h2 => by simp +contextual (disch := omega) [Nat.add_assoc, Int.add_assoc, if_pos, if_neg, -Int.not_lt, -Int.not_le, -Nat.not_lt, -Nat.not_le, -List.length_flatMap]) (by omega) (by omega), ?_⟩
      · simp +contextual (disch := omega) [Nat.add_assoc, Int.add_assoc, if_pos, if_neg, -Int.not_lt, -Int.not_le, -Nat.not_lt, -Nat.not_le, -List.length_flatMap, wo (x0 + 9) (by omega) (by omega), q9]
      · simp +contextual (disch := omega) [Nat.add_assoc, Int.add_assoc, if_pos, if_neg, -Int.not_lt, -Int.not_le, -Nat.not_lt, -Nat.not_le, -List.length_flatMap]
      · simp +contextual (disch := omega) [Nat.add_assoc, Int.add_assoc, if_pos, if_neg, -Int.not_lt, -Int.not_le, -Nat.not_lt, -Nat.not_le, -List.length_flatMap]
      · simp +contextual (disch := omega) [Nat.add_assoc, Int.add_assoc, if_pos, if_neg, -Int.not_lt, -Int.not_le, -Nat.not_lt, -Nat.not_le, -List.length_flatMap, wo j (by omega) (by omega), qj j hj]
      · simp +contextual (disch := omega) [Nat.add_assoc, Int.add_assoc, if_pos, if_neg, -Int.not_lt, -Int.not_le, -Nat.not_lt, -Nat.not_le, -List.length_flatMap]
  · rintro m1 x' hx ⟨q5, q9, q10, q0, q1, q2, q3, qj, qn⟩
    simp +contextual (disch := omega) [Nat.add_assoc, Int.add_assoc, if_pos, if_neg, -Int.not_lt, -Int.not_le, -Nat.not_lt, -Nat.not_le, -List.length_flatMap, q9, q10, E6, E7, q2, q3]
    rw [qn] at hK
    exact hK _ _ _ (by omega) (fun j hj => by simp +contextual (disch := omega) [Nat.add_assoc, Int.add_assoc, if_pos, if_neg, -Int.not_lt, -Int.not_le, -Nat.not_lt, -Nat.not_le, -List.length_flatMap, qj j hj]) (.inl ⟨rfl, rfl⟩)
  · rintro m1 x' hx ⟨q9, q10, q3, qj, v, r, hv, hr, q2⟩
    simp +contextual (disch := omega) [Nat.add_assoc, Int.add_assoc, if_pos, if_neg, -Int.not_lt, -Int.not_le, -Nat.not_lt, -Nat.not_le, -List.length_flatMap, q9, q10, E6, E7, q2, q3]
    rw [hv] at hK
    exact hK _ _ _ (by omega) (fun j hj => by simp +contextual (disch := omega) [Nat.add_assoc, Int.add_assoc, if_pos, if_neg, -Int.not_lt, -Int.not_le, -Nat.not_lt, -Nat.not_le, -List.length_flatMap, qj j hj]) (hr.up (fun j h1 h2 => by simp +contextual (disch := omega) [Nat.add_assoc, Int.add_assoc, if_pos, if_neg, -Int.not_lt, -Int.not_le, -Nat.not_lt, -Nat.not_le, -List.length_flatMap]) (by omega) (by omega))
end Pi


set_option linter.unusedSimpArgs false
set_option linter.unusedVariables false
namespace Pi
end Pi


set_option linter.unusedSimpArgs false
set_option linter.unusedVariables false
namespace Pi
theorem fz_bare {m : Sto} {Z : V} {z : List Bool} {lo x : Nat} (h : Zm m Z z lo x) {m' : Sto} (hm : ∀ j, lo ≤ j → j < x → bare (m' j) = bare (m j)) : frzW (der m' 40) Z = some (sV cB z, refOf Z) := by
  rcases h with ⟨rfl, rfl⟩ | ⟨b, rfl, h1, h2, h3⟩
  · rw [frzW_ns]; rfl
  · have := hm b h2 h3
    rw [h1] at this
    rw [frzW_ms, der_s, derO_bare, this, ← derO_bare, derO_cells, (Rm.full (f := cB) (k := 1) z).fz]
    have hl := flatB_len z
    simp [sV, refOf, hl]
    rw [← hl, List.take_length]
end Pi


set_option linter.unusedSimpArgs false
set_option linter.unusedVariables false
namespace Pi
theorem RightU_ok {cs : List Kn} {p : Int} (h : RightU cs p = true) (hc : ∀ c ∈ cs, c.Ok) : ∃ n : Nat, p = n ∧ n ≤ 5 ∧ ∀ z : List Bool, z.length = n → GoodKs cs z := by
  simp [RightU] at h
  refine ⟨p.toNat, by omega, by omega, fun z hz => ⟨by omega, by omega, fun c hcm => ?_⟩⟩
  have h1 := h.2 c hcm
  simp only [rightK, Bool.and_eq_true] at h1
  have e : ((z.length : Nat) : Int) = p := by omega
  rw [e]
  exact ⟨hc c hcm, h1.1, h1.2⟩
end Pi


set_option linter.unusedSimpArgs false
set_option linter.unusedVariables false
namespace Pi
theorem atomsO_bd {n : Nat} : ∀ (l : List Int) (i : Nat), i + l.length ≤ n + 1 → (∀ a ∈ l, a ≤ 11) → ∀ t ∈ atomsO l i, (i : Int) ≤ t.var ∧ t.var ≤ n ∧ 0 ≤ t.off ∧ t.off ≤ 11
  | [], _, _, _, t, h => by cases h
  | a :: r, i, hn, hl, t, h => by
    rw [List.length_cons] at hn
    unfold atomsO at h
    have ih := atomsO_bd (n := n) r (i + 1) (by omega) (fun b hb => hl b (List.mem_cons_of_mem _ hb)) t
    split at h
    · rename_i h0
      rcases List.mem_cons.1 h with rfl | h
      · have := hl a (by simp)
        exact ⟨by simp only; omega, by simp only; omega, h0, this⟩
      · have := ih h; omega
    · have := ih h; omega
theorem atomsF_bd {l : L} {z : List Bool} (hr : RightS l z.length 0 = true) : ∀ t ∈ atomsF (flattenF l z), 0 ≤ t.var ∧ t.var ≤ z.length ∧ 0 ≤ t.off ∧ t.off ≤ 12 := by
  obtain ⟨hp, hr'⟩ := RightS_ok (q := 0) hr
  have hbd := ofS_bd l z 12 hr'
  have hlen := flattenF_len hr
  intro t ht
  have hall : (flattenF l z).cst ≤ 12 ∧ 0 ≤ (flattenF l z).cst ∧ ∀ a ∈ (flattenF l z).offs, a ≤ 11 := by
    unfold flattenF
    split
    · exact ⟨by simp, by simp, fun a ha => (hbd.2.2 a ha).2⟩
    · exact ⟨by have := hbd.2.1.2; omega, hbd.2.1.1, fun a ha => (hbd.2.2 a ha).2⟩
  unfold atomsF at ht
  rcases List.mem_cons.1 ht with rfl | ht
  · exact ⟨by simp, by simp, hall.2.1, hall.1⟩
  · have := atomsO_bd (n := z.length) _ 1 (by omega) hall.2.2 t ht
    omega
def moreU (x : A) (l : List A) : List C := l.map fun y => ⟨[x], ⟨y.var, y.off + 1⟩⟩
theorem moreU_len (x : A) (l : List A) : (moreU x l).length = l.length := by simp [moreU]
theorem moreU_s (u : A) (l : List A) {j : Nat} (hj : j < l.length) : moreU u (l.take (j + 1)) = moreU u (l.take j) ++ [⟨[u], ⟨l[j].var, l[j].off + 1⟩⟩] := by
  unfold moreU
  rw [List.take_succ_eq_append_getElem hj, List.map_append]
  rfl
def leqAtU (cs : List Kn) (a b : L) (z : List Bool) : Option (List Int) := (atomsF (flattenF a z)).findSome? fun x => valO z (clU cs z ++ moreU x (atomsF (flattenF b z)))
def leqU (cs : List Kn) (a b : L) (n : Nat) : Option (List Int) := firstU (fun k => leqAtU cs a b (caseP k n)) (2 ^ n)
def leqRU (cs : List Kn) (p : Int) (a b : L) : Bool := RightU cs p && RightS a p 0 && RightS b p 0
def leqBU (cs : List Kn) (p : Int) (a b : L) : Bool := leqRU cs p a b && !(leqU cs a b p.toNat).isSome
def leqOU (cs : List Kn) (p : Int) (a b : L) : Option (List Int) := if leqRU cs p a b = true then leqU cs a b p.toNat else none
def leqEU (cs : List Kn) (p : Int) (a b : L) : Int := if leqRU cs p a b = true then 0 else 1
theorem findSome_at {α β : Type} {g : α → Option β} {l : List α} {i : Nat} {v : β} (hi : i < l.length) (h0 : ∀ u ∈ l.take i, g u = none) (h1 : g l[i] = some v) : l.findSome? g = some v := by
  have e : l = l.take i ++ l[i] :: l.drop (i + 1) := by rw [← List.drop_eq_getElem_cons hi, List.take_append_drop]
  rw [e, List.findSome?_append, List.findSome?_eq_none_iff.2 h0, List.findSome?_cons, h1]
  rfl
set_option maxRecDepth 20000 in
set_option maxHeartbeats 4000000 in
theorem under_Leq_1.w {cs : List Kn} {z : List Bool} (hg : GoodKs cs z) {a b : L} (oka : a.Ok) (okb : b.Ok) (hra : RightS a z.length 0 = true) (hrb : RightS b z.length 0 = true) {pa pb y x : Nat} {M : Sto} {Z : V} {K : CR → Sto → Nat → Prop}
    (ha : M pa = some (.cells (cL a) false)) (hb : M pb = some (.cells (cL b) false)) (hay : pa < y) (hby : pb < y) (hyx : y ≤ x) (hZ : Zm M Z z y x)
    (hret : ∀ M' x' r, x ≤ x' → (∀ j, j < y → M' j = M j) → Rw r (leqAtU cs a b z) M' x x' → K (.ret (.tu [r, .b (leqAtU cs a b z).isSome])) M' x') :
    Pi.w ctx (envOf [.ag [sV cK cs, Z], .p pa 0, .p pb 0]) M x [] none none (RetG ctx under_Leq_1.c.rs K) under_Leq_1.c.code := by
  have hA := under_situation_atoms.a cs z a oka hra
  have hB := under_situation_atoms.a cs z b okb hrb
  have hst := hZ.bf.stor
  have hce := hZ.bf.cells
  have hni : ∀ j, j < y → j ∉ refOf Z := fun j hj h => by
    rcases hZ with ⟨rfl, _⟩ | ⟨b, rfl, _, h2, h3⟩
    · simp [refOf] at h
    · simp [refOf] at h; omega
  have hni2 : ∀ j, x ≤ j → j ∉ refOf Z := fun j hj h => by
    rcases hZ with ⟨rfl, _⟩ | ⟨b, rfl, _, h2, h3⟩
    · simp [refOf] at h
    · simp [refOf] at h; omega
  have hfz := fun m' h => fz_bare hZ (m' := m') h
  obtain ⟨la, hla⟩ : ∃ la, la = atomsF (flattenF a z) := ⟨_, rfl⟩
  obtain ⟨lb, hlb⟩ : ∃ lb, lb = atomsF (flattenF b z) := ⟨_, rfl⟩
  have hz5 := hg.1
  have hll : la.length ≤ 6 ∧ lb.length ≤ 6 := by
    have h1 := atomsF_len (flattenF a z)
    have h2 := atomsF_len (flattenF b z)
    rw [flattenF_len hra] at h1
    rw [flattenF_len hrb] at h2
    rw [hla, hlb]
    omega
  have hbd : ∀ t ∈ lb, 0 ≤ t.var ∧ t.var ≤ z.length ∧ 0 ≤ t.off ∧ t.off ≤ 12 := by rw [hlb]; exact atomsF_bd hrb
  obtain ⟨g, hgd⟩ : ∃ g : A → Option (List Int), g = fun u => valO z (clU cs z ++ moreU u lb) := ⟨_, rfl⟩
  have hres : leqAtU cs a b z = la.findSome? g := by unfold leqAtU; rw [hgd, hla, hlb]
  rw [hres] at hret
  rw [← hla] at hA
  rw [← hlb] at hB
  have hgo : ∀ u, g u = valO z (clU cs z ++ moreU u lb) := fun u => by rw [hgd]
  clear hres hgd hla hlb
  obtain ⟨M1, hM1⟩ : ∃ M1, M1 = M.set x (some (.cells [sV cK cs, Z] false)) := ⟨_, rfl⟩
  have u0 : ∀ j, j < x → M1 j = M j := fun j hj => by rw [hM1, Sto.sne _ _ _ _ (by omega)]
  have ux : M1 x = some (.cells [sV cK cs, Z] false) := by rw [hM1, Sto.seq]
  have hz1 := hfz M1 (fun j h1 h2 => by rw [u0 j h2])
  obtain ⟨M2, hM2⟩ : ∃ M2, M2 = aft (sV cA la) M1 (refOf Z) := ⟨_, rfl⟩
  have w0 : ∀ j, j < y → M2 j = M j := fun j hj => by rw [hM2, aft_none _ _ _ _ (hni j hj), u0 j (by omega)]
  have wb : ∀ j, y ≤ j → j < x → bare (M2 j) = bare (M j) := fun j h1 h2 => by rw [hM2, bare_aft, u0 j h2]
  have wx : M2 x = some (.cells [sV cK cs, Z] false) := by rw [hM2, aft_none _ _ _ _ (hni2 x (by omega)), ux]
  simp +contextual (disch := omega) [Nat.add_assoc, Int.add_assoc, if_pos, if_neg, -Int.not_lt, -Int.not_le, -Nat.not_lt, -Nat.not_le, -List.length_flatMap, under_Leq_1.c, hst, hce, hM1.symm, ux, (u0 pa (by omega)).trans ha, hz1, ansK hA, hM2.symm]
  refine for_w (fun i e m x' => e 1 = .p pa 0 ∧ e 2 = .p pb 0 ∧ e 3 = .p x 0 ∧ e 15 = sV cA la ∧ e 16 = .i .i64 la.length ∧ e 17 = .i .i64 i ∧ x + 1 ≤ x' ∧ (∀ j, j < y → m j = M j) ∧ (∀ j, y ≤ j → j < x → bare (m j) = bare (M j)) ∧ m x = some (.cells [sV cK cs, Z] false) ∧ ∀ u ∈ la.take i, g u = none) la.length ?_ ?_ ?_
  · simp +contextual (disch := omega) [Nat.add_assoc, Int.add_assoc, if_pos, if_neg, -Int.not_lt, -Int.not_le, -Nat.not_lt, -Nat.not_le, -List.length_flatMap]
    exact ⟨w0, wb, wx⟩
  · rintro i e m x' hi ⟨g1, g2, g3, g15, g16, g17, gx, m0, mb, mx, gn⟩
    simp +contextual (disch := omega) [Nat.add_assoc, Int.add_assoc, if_pos, if_neg, -Int.not_lt, -Int.not_le, -Nat.not_lt, -Nat.not_le, -List.length_flatMap, under_Leq_1.b2, g1, g2, g3, g15, g16, g17, hi, mx, m0 pb hby, hb, hst, hce]
    generalize hM3 : Sto.set (Sto.set m (x' + 3) _) (x' + 3) _ = M3
    have t0 : ∀ j, j < x' + 3 → M3 j = m j := fun j hj => by rw [← hM3]; simp +contextual (disch := omega) [Nat.add_assoc, Int.add_assoc, if_pos, if_neg, -Int.not_lt, -Int.not_le, -Nat.not_lt, -Nat.not_le, -List.length_flatMap]
    have t3 : M3 (x' + 3) = some (.cells (cA la[i]) false) := by rw [← hM3]; simp +contextual (disch := omega) [Nat.add_assoc, Int.add_assoc, if_pos, if_neg, -Int.not_lt, -Int.not_le, -Nat.not_lt, -Nat.not_le, -List.length_flatMap]
    clear hM3
    have hz3 := hfz M3 (fun j h1 h2 => by rw [t0 j (by omega), mb j h1 h2])
    obtain ⟨M4, hM4⟩ : ∃ M4, M4 = aft (sV cA lb) M3 (refOf Z) := ⟨_, rfl⟩
    have s0 : ∀ j, j < y → M4 j = M j := fun j hj => by rw [hM4, aft_none _ _ _ _ (hni j hj), t0 j (by omega), m0 j hj]
    have sb : ∀ j, y ≤ j → j < x → bare (M4 j) = bare (M j) := fun j h1 h2 => by rw [hM4, bare_aft, t0 j (by omega), mb j h1 h2]
    have sx : M4 x = some (.cells [sV cK cs, Z] false) := by rw [hM4, aft_none _ _ _ _ (hni2 x (by omega)), t0 x (by omega), mx]
    have s3 : M4 (x' + 3) = some (.cells (cA la[i]) false) := by rw [hM4, aft_none _ _ _ _ (hni2 _ (by omega)), t3]
    simp +contextual (disch := omega) [Nat.add_assoc, Int.add_assoc, if_pos, if_neg, -Int.not_lt, -Int.not_le, -Nat.not_lt, -Nat.not_le, -List.length_flatMap, hz3, ansK hB, hM4.symm]
    clear hM4 hz3
    refine for_w (fun j e m' xx => e 1 = .p pa 0 ∧ e 2 = .p pb 0 ∧ e 3 = .p x 0 ∧ e 7 = .p (x' + 3) 0 ∧ e 15 = sV cA la ∧ e 16 = .i .i64 la.length ∧ e 17 = .i .i64 i ∧ e 23 = sV cA lb ∧ e 24 = .i .i64 lb.length ∧ e 25 = .i .i64 j ∧ x' + 10 ≤ xx ∧ (∀ q, q < x' + 10 → m' q = M4 q) ∧ ∃ fs, Xc m' (e 8) (moreU la[i] (lb.take j)) fs (x' + 10) xx) lb.length ?_ ?_ ?_
    · simp +contextual (disch := omega) [Nat.add_assoc, Int.add_assoc, if_pos, if_neg, -Int.not_lt, -Int.not_le, -Nat.not_lt, -Nat.not_le, -List.length_flatMap, g1, g2, g3, g15, g16, g17]
      exact ⟨_, Xc.nil⟩
    · rintro j e m' xx hj ⟨q1, q2, q3, q7, q15, q16, q17, q23, q24, q25, qx, qm, fs, qX⟩
      have hs1 := moreU_s la[i] lb hj
      have hln := moreU_len la[i] (lb.take j)
      rw [List.length_take] at hln
      have hst8 := qX.rc.stor
      have hsc8 := qX.rc.cells
      rw [hs1]
      generalize hV8 : e 8 = V8 at *
      have bj := hbd _ (List.getElem_mem hj)
      generalize la[i] = u at *
      generalize moreU u (lb.take j) = pre at *
      simp +contextual (disch := omega) [Nat.add_assoc, Int.add_assoc, if_pos, if_neg, -Int.not_lt, -Int.not_le, -Nat.not_lt, -Nat.not_le, -List.length_flatMap, under_Leq_1.b1, q1, q2, q3, q7, q15, q16, q17, q23, q24, q25, hj, hV8, qm (x' + 3) (by omega), s3, hst8, hsc8, -apV_ns]
      generalize hN : Sto.set (Sto.set (Sto.set (Sto.set m' (xx + 3) _) (xx + 3) _) (xx + 7) _) (xx + 15) _ = N
      have n0 : ∀ q, q < xx → N q = m' q := fun q hq => by rw [← hN]; simp +contextual (disch := omega) [Nat.add_assoc, Int.add_assoc, if_pos, if_neg, -Int.not_lt, -Int.not_le, -Nat.not_lt, -Nat.not_le, -List.length_flatMap]
      have n7 : N (xx + 7) = some (.cells (cA u) false) := by rw [← hN]; simp +contextual (disch := omega) [Nat.add_assoc, Int.add_assoc, if_pos, if_neg, -Int.not_lt, -Int.not_le, -Nat.not_lt, -Nat.not_le, -List.length_flatMap]
      clear hN
      have hF : Bf N (.ms (xx + 7) 0 1 2) cA 2 [u] (xx + 7) (xx + 8) := Bf.mem n7 (by simp) rfl (by omega) (by omega)
      refine qX.ap (dl := [⟨[u], ⟨lb[j].var, lb[j].off + 1⟩⟩]) (gs := [.ms (xx + 7) 0 1 2]) (lo := x' + 10) (fun q h1 h2 => n0 q (by omega)) (by omega) (by omega) (by omega) rfl rfl ⟨(Rl.Bf hF).mono (fun q hq => by omega), trivial⟩ (by simp; omega) ?_
      intro B' ws N2 z0 z1 z2 z3
      simp +contextual (disch := omega) [Nat.add_assoc, Int.add_assoc, if_pos, if_neg, -Int.not_lt, -Int.not_le, -Nat.not_lt, -Nat.not_le, -List.length_flatMap, z0, q1, q2, q3, q7, q15, q16, q17, q23, q24, q25]
      refine ⟨by omega, fun q hq => by rw [z2 q (by omega), n0 q (by omega), qm q hq], _, z1.up (Nat.le_refl _) (by omega) (fun _ _ _ => rfl)⟩
    · rintro e m' xx ⟨q1, q2, q3, q7, q15, q16, q17, q23, q24, q25, qx, qm, fs, qX⟩
      rw [List.take_length] at qX
      have hln := moreU_len la[i] lb
      have hV := under_situation_values.r hg (moreU la[i] lb) (by omega) (fun c hc => by
        obtain ⟨t, _, rfl⟩ := List.mem_map.1 hc
        simp)
      have ho1 := hgo la[i]
      rw [← valO_some, ← ho1] at hV
      obtain ⟨ids, hzX, hids⟩ := qX.rc.fz24
      have hst8 := qX.rc.stor
      have hsc8 := qX.rc.cells
      have hz5' := hfz m' (fun q h1 h2 => by rw [qm q (by omega), sb q h1 h2])
      have hR := Rw.out (g la[i]) m' (xx + 3)
      have hC := outC_lt (g la[i]) m' (xx + 3)
      generalize hV8 : e 8 = V8 at *
      simp +contextual (disch := omega) [Nat.add_assoc, Int.add_assoc, if_pos, if_neg, -Int.not_lt, -Int.not_le, -Nat.not_lt, -Nat.not_le, -List.length_flatMap, under_Leq_1.b1, q1, q2, q3, q7, q15, q16, q17, q23, q24, q25, hV8, hst8, hsc8, qm x (by omega), sx]
      refine under_situation_values.fr ?_
      simp +contextual (disch := omega) [Nat.add_assoc, Int.add_assoc, if_pos, if_neg, -Int.not_lt, -Int.not_le, -Nat.not_lt, -Nat.not_le, -List.length_flatMap, hz5', hzX]
      refine ansFK hV ?_
      have hM0 : ∀ j, j < y → fM m' (xx + 3) (outC (g la[i])) j = M j := fun j hj => by rw [hC.2 j (by omega), qm j (by omega), s0 j hj]
      have hMb : ∀ j, y ≤ j → j < x → bare (fM m' (xx + 3) (outC (g la[i])) j) = bare (M j) := fun j h1 h2 => by rw [hC.2 j (by omega), qm j (by omega), sb j h1 h2]
      have hMx : fM m' (xx + 3) (outC (g la[i])) x = some (.cells [sV cK cs, Z] false) := by rw [hC.2 x (by omega), qm x (by omega), sx]
      generalize fM m' (xx + 3) (outC (g la[i])) = M5 at *
      generalize fX (xx + 3) (outC (g la[i])) = x5 at *
      cases hgi : g la[i] with
      | none =>
        simp +contextual (disch := omega) [Nat.add_assoc, Int.add_assoc, if_pos, if_neg, -Int.not_lt, -Int.not_le, -Nat.not_lt, -Nat.not_le, -List.length_flatMap, q1, q2, q3, q7, q15, q16, q17, q23, q24, q25]
        refine ⟨by omega, hM0, hMb, hMx, fun u hu => ?_⟩
        rw [List.take_succ_eq_append_getElem hi, List.mem_append, List.mem_singleton] at hu
        rcases hu with h | rfl
        · exact gn u h
        · exact hgi
      | some v =>
        simp +contextual (disch := omega) [Nat.add_assoc, Int.add_assoc, if_pos, if_neg, -Int.not_lt, -Int.not_le, -Nat.not_lt, -Nat.not_le, -List.length_flatMap, q1, q2, q3, q7, q15, q16, q17, q23, q24, q25]
        rw [findSome_at hi gn hgi] at hret
        rw [hgi] at hR
        exact hret _ _ _ (by omega) hM0 (hR.up (fun _ _ _ => rfl) (by omega) (by omega))
  · rintro e m x' ⟨g1, g2, g3, g15, g16, g17, gx, m0, mb, mx, gn⟩
    rw [List.take_length] at gn
    rw [List.findSome?_eq_none_iff.2 gn] at hret
    simp +contextual (disch := omega) [Nat.add_assoc, Int.add_assoc, if_pos, if_neg, -Int.not_lt, -Int.not_le, -Nat.not_lt, -Nat.not_le, -List.length_flatMap, under_Leq_1.b2, g1, g2, g3, g15, g16, g17]
    exact hret _ _ _ (by omega) m0 (.inl ⟨rfl, rfl⟩)
set_option maxRecDepth 20000 in
set_option maxHeartbeats 4000000 in
theorem under_Leq.r (cs : List Kn) (hc : ∀ c ∈ cs, c.Ok) (hl : cs.length ≤ 9223372036854775807) (p : Int) (a b : L) (oka : a.Ok) (okb : b.Ok) : AnsF ctx under_Leq.n [sV cK cs, .i .i64 p, .ag (cL a), .ag (cL b)] (fun x => .tu [.b (leqBU cs p a b), outU (leqOU cs p a b) x, .i .i64 (leqEU cs p a b)]) (outC (leqOU cs p a b)) := by
  refine ansf under_Leq.f ?_
  have hR := under_Right.a cs hc hl p
  have hA := level_Right.a a oka p 0
  have hB := level_Right.a b okb p 0
  unfold leqBU leqOU leqEU leqRU
  cases hr : RightU cs p with
  | false =>
    rw [hr] at hR
    simp +contextual (disch := omega) [Nat.add_assoc, Int.add_assoc, if_pos, if_neg, -Int.not_lt, -Int.not_le, -Nat.not_lt, -Nat.not_le, -List.length_flatMap, under_Leq.c, ansK hR]
    exact FrR_nil3 rfl _ _ _
  | true =>
    rw [hr] at hR
    cases h1 : RightS a p 0 with
    | false =>
      rw [h1] at hA
      simp +contextual (disch := omega) [Nat.add_assoc, Int.add_assoc, if_pos, if_neg, -Int.not_lt, -Int.not_le, -Nat.not_lt, -Nat.not_le, -List.length_flatMap, under_Leq.c, ansK hR, ansK hA]
      exact FrR_nil3 rfl _ _ _
    | true =>
      rw [h1] at hA
      cases h2 : RightS b p 0 with
      | false =>
        rw [h2] at hB
        simp +contextual (disch := omega) [Nat.add_assoc, Int.add_assoc, if_pos, if_neg, -Int.not_lt, -Int.not_le, -Nat.not_lt, -Nat.not_le, -List.length_flatMap, under_Leq.c, ansK hR, ansK hA, ansK hB]
        exact FrR_nil3 rfl _ _ _
      | true =>
        rw [h2] at hB
        obtain ⟨n, rfl, hn, hg⟩ := RightU_ok hr hc
        have hnn : ((n : Int)).toNat = n := by omega
        rw [hnn]
        simp +contextual (disch := omega) [Nat.add_assoc, Int.add_assoc, if_pos, if_neg, -Int.not_lt, -Int.not_le, -Nat.not_lt, -Nat.not_le, -List.length_flatMap, under_Leq.c, ansK hR, ansK hA, ansK hB]
        rw [CallX_op (by rfl)]
        refine openg_w under_first.f rfl (.inl rfl) ?_
        have hff : ctx.frz under_first.n = false := rfl
        rw [hff]
        refine under_first.w hn cs _ rfl rfl (fun k => leqAtU cs a b (caseP k n)) ?_ ?_
        · intro k hk M y x Z K' hy hyx hM hZ hret
          have m0 : M 0 = some (.cells (cL a) false) := by rw [hM 0 (by omega)]; simp +contextual (disch := omega) [Nat.add_assoc, Int.add_assoc, if_pos, if_neg, -Int.not_lt, -Int.not_le, -Nat.not_lt, -Nat.not_le, -List.length_flatMap]
          have m1 : M 1 = some (.cells (cL b) false) := by rw [hM 1 (by omega)]; simp +contextual (disch := omega) [Nat.add_assoc, Int.add_assoc, if_pos, if_neg, -Int.not_lt, -Int.not_le, -Nat.not_lt, -Nat.not_le, -List.length_flatMap]
          have hff : ctx.frz under_Leq_1.n = false := rfl
          rw [CallX_op (by rfl)]
          refine openg_w under_Leq_1.f rfl (.inl rfl) ?_
          rw [hff]
          refine under_Leq_1.w (hg (caseP k n) (caseP_len k n)) oka okb (by rw [caseP_len]; exact h1) (by rw [caseP_len]; exact h2) m0 m1 (by omega) (by omega) hyx hZ ?_
          intro M' x' r hx' hM' hr
          exact hret M' x' r hx' hM' (hr.up (fun _ _ _ => rfl) hyx (Nat.le_refl _))
        · intro m' x' r hx' hm' hr
          have hrs := hr.stor
          rw [show firstU (fun k => leqAtU cs a b (caseP k n)) (2 ^ n) = leqU cs a b n from rfl] at hr ⊢
          simp +contextual (disch := omega) [Nat.add_assoc, Int.add_assoc, if_pos, if_neg, -Int.not_lt, -Int.not_le, -Nat.not_lt, -Nat.not_le, -List.length_flatMap, hrs.1, hrs.2]
          exact (hr.up (fun _ _ _ => rfl) (Nat.le_refl _) (Nat.le_refl _)).frr _ _
end Pi


set_option linter.unusedSimpArgs false
set_option linter.unusedVariables false
namespace Pi
/-- What an atom is by values (the nought-th is 0). -/
def valA (p : List Int) (t : A) : Int := (0 :: p).getD t.var.toNat 0 + t.off
theorem mem_atomsO {t : A} : ∀ {l : List Int} {i : Nat}, t ∈ atomsO l i ↔ ∃ j : Nat, j < l.length ∧ 0 ≤ l.getD j (-1) ∧ t = ⟨((i + j : Nat) : Int), l.getD j (-1)⟩
  | [], i => by simp [atomsO]
  | n :: r, i => by
    have ih := mem_atomsO (t := t) (l := r) (i := i + 1)
    have key : (∃ j : Nat, j < (n :: r).length ∧ 0 ≤ (n :: r).getD j (-1) ∧ t = ⟨((i + j : Nat) : Int), (n :: r).getD j (-1)⟩) ↔ (0 ≤ n ∧ t = ⟨(i : Int), n⟩) ∨ ∃ j : Nat, j < r.length ∧ 0 ≤ r.getD j (-1) ∧ t = ⟨((i + 1 + j : Nat) : Int), r.getD j (-1)⟩ := by
      constructor
      · rintro ⟨j, h1, h2, h3⟩
        cases j with
        | zero => exact .inl ⟨h2, h3⟩
        | succ j =>
          simp only [List.length_cons, List.getD_cons_succ] at h1 h2 h3
          exact .inr ⟨j, by omega, h2, by rw [h3, (by omega : i + (j + 1) = i + 1 + j)]⟩
      · rintro (⟨h1, h2⟩ | ⟨j, h1, h2, h3⟩)
        · exact ⟨0, by simp, h1, h2⟩
        · exact ⟨j + 1, by simp; omega, by simpa using h2, by rw [h3, (by omega : i + (j + 1) = i + 1 + j)]; simp⟩
    rw [atomsO, key, ← ih]
    split
    · rename_i h
      simp [h]
    · rename_i h
      constructor
      · exact .inr
      · rintro (⟨h1, _⟩ | h1)
        · exact absurd h1 h
        · exact h1
theorem mem_atomsF {t : A} {f : F} : t ∈ atomsF f ↔ t = ⟨0, f.cst⟩ ∨ ∃ j : Nat, j < f.offs.length ∧ 0 ≤ f.offs.getD j (-1) ∧ t = ⟨((1 + j : Nat) : Int), f.offs.getD j (-1)⟩ := by
  unfold atomsF
  rw [List.mem_cons, mem_atomsO]
theorem atomsF_ne (f : F) : atomsF f ≠ [] := by simp [atomsF]
theorem valA_0 (p : List Int) (n : Int) : valA p ⟨0, n⟩ = n := by simp [valA]
theorem valA_s (p : List Int) (j : Nat) (n : Int) : valA p ⟨((1 + j : Nat) : Int), n⟩ = p.getD j 0 + n := by
  unfold valA
  have : (((1 + j : Nat) : Int)).toNat = j + 1 := by omega
  simp only [this, List.getD_cons_succ]
/-- A flat is the greatest of its atoms. -/
theorem vF_atoms {f : F} {p : List Int} (h : f.offs.length = p.length) (hb : ∀ i, -1 ≤ f.offs.getD i (-1)) (t : Int) : vF f p ≤ t ↔ ∀ x ∈ atomsF f, valA p x ≤ t := by
  rw [vF_le h]
  constructor
  · rintro ⟨h1, h2⟩ x hx
    rcases mem_atomsF.1 hx with rfl | ⟨j, j1, j2, rfl⟩
    · rw [valA_0]; exact h1
    · rw [valA_s]; exact h2 j (by omega)
  · intro hx
    refine ⟨by have := hx _ (mem_atomsF.2 (.inl rfl)); rwa [valA_0] at this, fun i hi => ?_⟩
    have hlt : i < f.offs.length := by
      by_cases hh : i < f.offs.length
      · exact hh
      · exact absurd (by simp [List.getElem?_eq_none (by omega : f.offs.length ≤ i)]) hi
    have := hx _ (mem_atomsF.2 (.inr ⟨i, hlt, by have := hb i; omega, rfl⟩))
    rwa [valA_s] at this
theorem vF_max {f : F} {p : List Int} (h : f.offs.length = p.length) (hb : ∀ i, -1 ≤ f.offs.getD i (-1)) : ∃ x ∈ atomsF f, valA p x = vF f p := by
  have h1 := (vF_atoms h hb (vF f p)).1 (Int.le_refl _)
  by_cases hh : ∃ x ∈ atomsF f, valA p x = vF f p
  · exact hh
  · have h2 : vF f p ≤ vF f p - 1 := (vF_atoms h hb _).2 fun x hx => by
      have h3 := h1 x hx
      have h4 : valA p x ≠ vF f p := fun e => hh ⟨x, hx, e⟩
      omega
    omega
/-- What is asked of a level in a case. -/
structure Flat1 (l : L) (z : List Bool) : Prop where
  len : (flattenF l z).offs.length = z.length
  bd : ∀ i, -1 ≤ (flattenF l z).offs.getD i (-1)
  zero : ∀ i, z.getD i false = true → (flattenF l z).offs.getD i (-1) = -1
theorem flat1 {l : L} {z : List Bool} (hr : RightS l z.length 0 = true) : Flat1 l z := by
  obtain ⟨hp, hr'⟩ := RightS_ok (q := 0) hr
  have hbd := ofS_bd l z 12 hr'
  refine ⟨flattenF_len hr, fun i => ?_, fun i hi => ?_⟩
  · have := hbd.getD (by omega) i
    unfold flattenF
    split <;> exact this.1
  · -- by values that fit
    have hF : Fits z (z.map fun b => if b then 0 else 1) := by
      refine ⟨by simp, fun j hj => ?_⟩
      have e : (z.map fun b => if b then (0 : Int) else 1).getD j 0 = if z.getD j false then 0 else 1 := by simp [hj]
      rw [e]
      cases z.getD j false <;> simp
    have := (of_val l z _ 12 hr' hF).2 i hi
    unfold flattenF
    split <;> exact this
theorem lv_atoms {l : L} {z : List Bool} {p : List Int} (hr : RightS l z.length 0 = true) (hF : Fits z p) (t : Int) : lvS l p [] ≤ t ↔ ∀ x ∈ atomsF (flattenF l z), valA p x ≤ t := by
  have h := flat1 hr
  rw [← flatten_val (RightS_ok (q := 0) hr).2 hF]
  exact vF_atoms (h.len.trans hF.1.symm) h.bd t
theorem lv_max {l : L} {z : List Bool} {p : List Int} (hr : RightS l z.length 0 = true) (hF : Fits z p) : ∃ x ∈ atomsF (flattenF l z), valA p x = lvS l p [] := by
  have h := flat1 hr
  rw [← flatten_val (RightS_ok (q := 0) hr).2 hF]
  exact vF_max (h.len.trans hF.1.symm) h.bd
/-- A model tells of values. -/
def RelM (M p : List Int) (z : List Bool) : Prop := ∀ t : A, (t.var = 0 ∨ ∃ i : Nat, t.var = ((1 + i : Nat) : Int) ∧ i < z.length ∧ z.getD i false = false) → atS M t = M.getD 0 0 - valA p t
theorem at_rel {M p : List Int} {z : List Bool} {l : L} (h : RelM M p z) (hr : RightS l z.length 0 = true) {t : A} (ht : t ∈ atomsF (flattenF l z)) : atS M t = M.getD 0 0 - valA p t := by
  have hf := flat1 hr
  rcases mem_atomsF.1 ht with rfl | ⟨j, j1, j2, rfl⟩
  · exact h _ (.inl rfl)
  · refine h _ (.inr ⟨j, rfl, by have := hf.len; omega, ?_⟩)
    cases hz : z.getD j false with
    | false => rfl
    | true => have := hf.zero j hz; omega
theorem holds1 {M : List Int} {c : C} (hne : c.frm ≠ []) : brokenC M c = false ↔ ∃ a ∈ c.frm, atS M a ≤ atS M c.to := by
  rw [holds_at]
  have e : asksS M c ≤ M.getD c.to.var.toNat 0 ↔ minS M c.frm ≤ atS M c.to := by
    unfold asksS atS
    omega
  rw [e]
  constructor
  · intro h
    obtain ⟨a, ha, h1⟩ := minS_mem M c.frm hne
    exact ⟨a, ha, by omega⟩
  · rintro ⟨a, ha, h⟩
    have := minS_le M c.frm a ha
    omega
theorem mem_clZ {c : C} : ∀ {z : List Bool} {i : Nat}, c ∈ clZ z i ↔ ∃ j : Nat, j < z.length ∧ z.getD j false = false ∧ c = ⟨[⟨((i + j : Nat) : Int), 0⟩], ⟨0, 1⟩⟩
  | [], i => by simp [clZ]
  | n :: r, i => by
    have ih := mem_clZ (c := c) (z := r) (i := i + 1)
    have key : (∃ j : Nat, j < (n :: r).length ∧ (n :: r).getD j false = false ∧ c = ⟨[⟨((i + j : Nat) : Int), 0⟩], ⟨0, 1⟩⟩) ↔ (n = false ∧ c = ⟨[⟨(i : Int), 0⟩], ⟨0, 1⟩⟩) ∨ ∃ j : Nat, j < r.length ∧ r.getD j false = false ∧ c = ⟨[⟨((i + 1 + j : Nat) : Int), 0⟩], ⟨0, 1⟩⟩ := by
      constructor
      · rintro ⟨j, h1, h2, h3⟩
        cases j with
        | zero => exact .inl ⟨h2, h3⟩
        | succ j =>
          simp only [List.length_cons, List.getD_cons_succ] at h1 h2
          exact .inr ⟨j, by omega, h2, by rw [h3, (by omega : i + (j + 1) = i + 1 + j)]⟩
      · rintro (⟨h1, h2⟩ | ⟨j, h1, h2, h3⟩)
        · exact ⟨0, by simp, h1, h2⟩
        · exact ⟨j + 1, by simp; omega, by simpa using h2, by rw [h3, (by omega : i + (j + 1) = i + 1 + j)]⟩
    rw [clZ, key, ← ih]
    cases n with
    | true => simp
    | false => simp
def RightK (n : Nat) (cs : List Kn) : Prop := ∀ c ∈ cs, RightS c.a n 0 = true ∧ RightS c.b n 0 = true
def HoldK (cs : List Kn) (p : List Int) : Prop := ∀ c ∈ cs, lvS c.a p [] ≤ lvS c.b p []
theorem holds_clZ {M p : List Int} {z : List Bool} (h : RelM M p z) : holdsC (clZ z 1) M ↔ ∀ i : Nat, i < z.length → z.getD i false = false → 1 ≤ p.getD i 0 := by
  have key : ∀ i : Nat, i < z.length → z.getD i false = false → (brokenC M ⟨[⟨((1 + i : Nat) : Int), 0⟩], ⟨0, 1⟩⟩ = false ↔ 1 ≤ p.getD i 0) := fun i hi hz => by
    rw [holds1 (by simp)]
    have h1 := h ⟨((1 + i : Nat) : Int), 0⟩ (.inr ⟨i, rfl, hi, hz⟩)
    have h2 := h ⟨0, 1⟩ (.inl rfl)
    rw [valA_s] at h1
    rw [valA_0] at h2
    simp only [List.mem_singleton, exists_eq_left]
    omega
  constructor
  · intro hh i hi hz
    exact (key i hi hz).1 (hh _ (mem_clZ.2 ⟨i, hi, hz, rfl⟩))
  · intro hh c hc
    obtain ⟨j, h1, h2, rfl⟩ := mem_clZ.1 hc
    exact (key j h1 h2).2 (hh j h1 h2)
theorem holds_clKn {M p : List Int} {z : List Bool} (h : RelM M p z) (hF : Fits z p) {c : Kn} (ha : RightS c.a z.length 0 = true) (hb : RightS c.b z.length 0 = true) : holdsC (clKn z c) M ↔ lvS c.a p [] ≤ lvS c.b p [] := by
  rw [lv_atoms ha hF]
  unfold holdsC clKn
  constructor
  · intro hh x hx
    have h1 := (holds1 (atomsF_ne _)).1 (hh _ (List.mem_map_of_mem hx))
    obtain ⟨b, hb1, hb2⟩ := h1
    simp only at hb1 hb2
    rw [at_rel h hb hb1, at_rel h ha hx] at hb2
    have := (lv_atoms hb hF _).1 (Int.le_refl _) b hb1
    omega
  · intro hh c' hc'
    obtain ⟨t, ht, rfl⟩ := List.mem_map.1 hc'
    obtain ⟨b, hb1, hb2⟩ := lv_max hb hF
    refine (holds1 (atomsF_ne _)).2 ⟨b, hb1, ?_⟩
    rw [at_rel h hb hb1]
    show _ ≤ atS M t
    rw [at_rel h ha ht]
    have := hh t ht
    omega
theorem holds_clU {M p : List Int} {z : List Bool} (h : RelM M p z) (hF : Fits z p) {cs : List Kn} (hr : RightK z.length cs) : holdsC (clU cs z) M ↔ HoldK cs p := by
  unfold clU
  rw [holds_app, holds_clZ h]
  constructor
  · rintro ⟨_, h2⟩ c hc
    exact (holds_clKn h hF (hr c hc).1 (hr c hc).2).1 fun c' h' => h2 c' (List.mem_flatMap.2 ⟨c, hc, h'⟩)
  · intro hh
    refine ⟨fun i hi hz => ?_, fun c' h' => ?_⟩
    · have := hF.2 i hi
      rwa [hz, if_neg (by simp)] at this
    · obtain ⟨c, hc, h'⟩ := List.mem_flatMap.1 h'
      exact (holds_clKn h hF (hr c hc).1 (hr c hc).2).2 (hh c hc) c' h'
theorem holds_more {M p : List Int} {z : List Bool} (h : RelM M p z) (hF : Fits z p) {a b : L} (ha : RightS a z.length 0 = true) (hb : RightS b z.length 0 = true) {x : A} (hx : x ∈ atomsF (flattenF a z)) :
    holdsC (moreU x (atomsF (flattenF b z))) M ↔ lvS b p [] < valA p x := by
  have e : lvS b p [] < valA p x ↔ lvS b p [] ≤ valA p x - 1 := by omega
  rw [e, lv_atoms hb hF]
  unfold holdsC moreU
  have key : ∀ y ∈ atomsF (flattenF b z), (brokenC M ⟨[x], ⟨y.var, y.off + 1⟩⟩ = false ↔ valA p y ≤ valA p x - 1) := fun y hy => by
    rw [holds1 (by simp)]
    simp only [List.mem_singleton, exists_eq_left]
    have h1 := at_rel h ha hx
    have h2 := at_rel h hb hy
    have h3 : atS M ⟨y.var, y.off + 1⟩ = atS M y - 1 := by unfold atS; simp only; omega
    rw [h3, h1, h2]
    omega
  constructor
  · intro hh y hy
    exact (key y hy).1 (hh _ (List.mem_map_of_mem hy))
  · intro hh c hc
    obtain ⟨y, hy, rfl⟩ := List.mem_map.1 hc
    exact (key y hy).2 (hh y hy)
/-- The clauses may be. -/
theorem okC_clU {cs : List Kn} {z : List Bool} (hg : GoodKs cs z) : ∀ c ∈ clU cs z, okC ((z.length + 1 : Nat) : Int) c = true := by
  have atm : ∀ {l : L}, RightS l z.length 0 = true → ∀ t ∈ atomsF (flattenF l z), okA ((z.length + 1 : Nat) : Int) t = true := fun hr t ht => by
    have := atomsF_bd hr t ht
    simp [okA]
    omega
  intro c hc
  rcases List.mem_append.1 hc with h | h
  · obtain ⟨j, h1, h2, rfl⟩ := mem_clZ.1 h
    simp [okC, manyC, okA]
    omega
  · obtain ⟨k, hk, h⟩ := List.mem_flatMap.1 h
    obtain ⟨t, ht, rfl⟩ := List.mem_map.1 h
    obtain ⟨hok, hra, hrb⟩ := hg.2.2 k hk
    have h6 := clU_frm hg _ hc
    simp only at h6
    have h1 : 0 < (atomsF (flattenF k.b z)).length := List.length_pos_iff.2 (atomsF_ne _)
    simp only [okC, manyC, Bool.and_eq_true, Bool.not_eq_true', Bool.or_eq_false_iff, decide_eq_false_iff_not]
    refine ⟨⟨by omega, by omega⟩, List.all_eq_true.2 fun x hx => ?_⟩
    rcases List.mem_append.1 hx with h | h
    · exact atm hrb x h
    · rw [List.mem_singleton.1 h]; exact atm hra t ht
theorem okC_more {a b : L} {z : List Bool} (hra : RightS a z.length 0 = true) (hrb : RightS b z.length 0 = true) {x : A} (hx : x ∈ atomsF (flattenF a z)) : ∀ c ∈ moreU x (atomsF (flattenF b z)), okC ((z.length + 1 : Nat) : Int) c = true := by
  intro c hc
  obtain ⟨y, hy, rfl⟩ := List.mem_map.1 hc
  have h1 := atomsF_bd hra x hx
  have h2 := atomsF_bd hrb y hy
  simp [okC, manyC, okA]
  omega
theorem right_clU {cs : List Kn} {z : List Bool} (hg : GoodKs cs z) {l : List C} (hl : l.length ≤ 6) (hok : ∀ c ∈ l, okC ((z.length + 1 : Nat) : Int) c = true) : rightC ((z.length + 1 : Nat) : Int) (clU cs z ++ l) = true := by
  have hcl := pre_len hg cs.length
  rw [List.take_length] at hcl
  have hcl2 : (clU cs z).length ≤ 53 := hcl
  have h5 := hg.1
  simp only [rightC, Bool.and_eq_true, decide_eq_true_eq, List.length_append]
  refine ⟨⟨⟨by omega, by omega⟩, by omega⟩, List.all_eq_true.2 fun c hc => ?_⟩
  rcases List.mem_append.1 hc with h | h
  · exact okC_clU hg c h
  · exact hok c h
/-- Where there is a model there are values, and the other way round. -/
def modelP (K : Int) (p : List Int) : List Int := K :: p.map fun v => K - v
theorem modelP_rel {K : Int} {p : List Int} {z : List Bool} (h : p.length = z.length) : RelM (modelP K p) p z := by
  rintro ⟨v, o⟩ (rfl | ⟨i, rfl, hi, _⟩)
  · rw [valA_0]; simp [modelP, atS]
  · rw [valA_s]
    have : (((1 + i : Nat) : Int)).toNat = i + 1 := by omega
    simp only [atS, modelP, this, List.getD_cons_succ, List.getD_cons_zero]
    have e : (p.map fun v => K - v).getD i 0 = K - p.getD i 0 := by simp [h, hi]
    rw [e]
    omega
theorem valsZ_at {M : List Int} {z : List Bool} {i : Nat} (hi : i < z.length) : (valsZ M z).getD i 0 = if z.getD i false = true then 0 else M.getD 0 0 - M.getD (i + 1) 0 := by
  simp [valsZ, hi]
theorem valsZ_rel (M : List Int) (z : List Bool) : RelM M (valsZ M z) z := by
  rintro ⟨v, o⟩ (rfl | ⟨i, rfl, hi, hz⟩)
  · rw [valA_0]; simp [atS]
  · rw [valA_s, valsZ_at hi, hz, if_neg (by simp)]
    have : (((1 + i : Nat) : Int)).toNat = i + 1 := by omega
    simp only [atS, this]
    omega
theorem okU_vals {cs : List Kn} {z : List Bool} (hg : GoodKs cs z) {l : List C} {v : List Int} (h : valO z (clU cs z ++ l) = some v) : ∃ M, v = valsZ M z ∧ RelM M v z ∧ Fits z v ∧ HoldK cs v ∧ holdsC l M := by
  unfold valO at h
  split at h
  · rename_i hok
    cases h
    unfold valsU
    rw [if_pos hok]
    have hok2 := hok
    unfold okU at hok2
    simp only [Bool.and_eq_true] at hok2
    obtain ⟨r1, r2, r3, r4⟩ := right_ok hok2.1
    rcases solve_spec (n := z.length + 1) (by omega) r4 with ⟨_, hL, _⟩ | ⟨h1, _⟩
    · have hrel := valsZ_rel (solveC (z.length + 1) (clU cs z ++ l)).1 z
      have hH := hL.holds
      rw [holds_app] at hH
      have hK : RightK z.length cs := fun c hc => (hg.2.2 c hc).2
      generalize (solveC (z.length + 1) (clU cs z ++ l)).1 = M at *
      have hz1 : holdsC (clZ z 1) M := fun c hc => hH.1 c (List.mem_append_left _ hc)
      have hp1 := (holds_clZ hrel).1 hz1
      have hF : Fits z (valsZ M z) := by
        refine ⟨by simp [valsZ], fun i hi => ?_⟩
        cases hz : z.getD i false with
        | true => rw [if_pos rfl, valsZ_at hi, hz, if_pos rfl]
        | false => rw [if_neg (by simp)]; exact hp1 i hi hz
      exact ⟨M, rfl, hrel, hF, (holds_clU hrel hF hK).1 hH.1, hH.2⟩
    · rw [h1] at hok2; cases hok2.2
  · cases h
theorem sum_ge : ∀ {p : List Int}, (∀ i : Nat, 0 ≤ p.getD i 0) → 0 ≤ p.sum ∧ ∀ v ∈ p, v ≤ p.sum
  | [], _ => by simp
  | a :: r, h => by
    have ih := sum_ge (p := r) fun i => by simpa using h (i + 1)
    have h0 : 0 ≤ a := by simpa using h 0
    simp only [List.sum_cons]
    refine ⟨by omega, fun v hv => ?_⟩
    rcases List.mem_cons.1 hv with rfl | hv
    · omega
    · have := ih.2 v hv; omega
theorem vals_okU {cs : List Kn} {z : List Bool} (hg : GoodKs cs z) {l : List C} (hl : l.length ≤ 6) (hok : ∀ c ∈ l, okC ((z.length + 1 : Nat) : Int) c = true) {p : List Int} (hF : Fits z p) (hp : ∀ i : Nat, 0 ≤ p.getD i 0) (hK : HoldK cs p) (hh : ∀ M, RelM M p z → holdsC l M) : valO z (clU cs z ++ l) ≠ none := by
  intro hn
  have hr := right_clU hg hl hok
  obtain ⟨r1, r2, r3, r4⟩ := right_ok hr
  have hrel := modelP_rel (K := p.sum) hF.1
  have hk : RightK z.length cs := fun c hc => (hg.2.2 c hc).2
  have hM : holdsC (clU cs z ++ l) (modelP p.sum p) := holds_app.2 ⟨(holds_clU hrel hF hk).2 hK, hh _ hrel⟩
  unfold valO okU at hn
  rw [hr, Bool.true_and] at hn
  split at hn
  · cases hn
  · rename_i h1
    have h2 : (solveC (z.length + 1) (clU cs z ++ l)).2.1 = false := by simpa using h1
    have hs := sum_ge hp
    refine (solve_iff (n := z.length + 1) (by omega) r4).1 h2 (modelP p.sum p) (by simp [modelP, hF.1]) (fun i => ?_) hM
    cases i with
    | zero => simpa [modelP] using hs.1
    | succ i =>
      unfold modelP
      rw [List.getD_cons_succ]
      by_cases hi : i < p.length
      · have := hs.2 p[i] (List.getElem_mem hi)
        simp [hi]
        omega
      · simp [List.getElem?_eq_none (by simpa using hi : (p.map fun v => p.sum - v).length ≤ i)]
end Pi


set_option linter.unusedSimpArgs false
set_option linter.unusedVariables false
namespace Pi
theorem firstU_some2 {f : Nat → Option (List Int)} {N : Nat} {v : List Int} (h : firstU f N = some v) : ∃ k, k < N ∧ f k = some v := by
  unfold firstU at h
  obtain ⟨k, hk, h1⟩ := List.exists_of_findSome?_eq_some h
  exact ⟨k, by simpa using hk, h1⟩
theorem firstU_no {f : Nat → Option (List Int)} {N : Nat} (h : firstU f N = none) {k : Nat} (hk : k < N) : f k = none := by
  unfold firstU at h
  exact List.findSome?_eq_none_iff.1 h k (by simpa using hk)
def bitN (v : Int) : Nat := if v = 0 then 1 else 0
theorem case3U {p : List Int} (hl : p.length = 3) (hp : ∀ i : Nat, 0 ≤ p.getD i 0) : ∃ k, k < 2 ^ 3 ∧ Fits (caseP k 3) p := by
  have key : ∀ a b c : Nat, a ≤ 1 → b ≤ 1 → c ≤ 1 → caseP (a + 2 * b + 4 * c) 3 = [decide (a = 1), decide (b = 1), decide (c = 1)] := by
    intro a b c h1 h2 h3
    rcases (by omega : a = 0 ∨ a = 1) with rfl | rfl <;> rcases (by omega : b = 0 ∨ b = 1) with rfl | rfl <;> rcases (by omega : c = 0 ∨ c = 1) with rfl | rfl <;> decide
  have b1 : ∀ v : Int, bitN v ≤ 1 := fun v => by unfold bitN; split <;> omega
  refine ⟨bitN (p.getD 0 0) + 2 * bitN (p.getD 1 0) + 4 * bitN (p.getD 2 0), by have := b1 (p.getD 0 0); have := b1 (p.getD 1 0); have := b1 (p.getD 2 0); omega, ?_⟩
  rw [key _ _ _ (b1 _) (b1 _) (b1 _)]
  refine ⟨by simpa using hl, fun i hi => ?_⟩
  have one : ∀ v : Int, 0 ≤ v → if decide (bitN v = 1) = true then v = 0 else 1 ≤ v := fun v hv => by
    unfold bitN
    split <;> simp <;> omega
  have h3 : i = 0 ∨ i = 1 ∨ i = 2 := by simp at hi; omega
  rcases h3 with rfl | rfl | rfl
  · exact one _ (hp 0)
  · exact one _ (hp 1)
  · exact one _ (hp 2)
structure Vals (cs : List Kn) (v : List Int) : Prop where
  len : v.length = 3
  nat : ∀ i : Nat, 0 ≤ v.getD i 0 ∧ v.getD i 0 ≤ 1000000
  hold : HoldK cs v
theorem valO_bd {z : List Bool} (hz : z.length ≤ 5) {l : List C} {v : List Int} (h : valO z l = some v) (i : Nat) : v.getD i 0 ≤ 1000000 := by
  unfold valO at h
  split at h
  · rename_i hk
    cases h
    have hm := model_bd hz hk
    unfold valsU
    rw [if_pos hk]
    generalize (solveC (z.length + 1) l).1 = M at *
    by_cases hi : i < z.length
    · rw [valsZ_at hi]
      have h0 := hm.2 0
      have h1 := hm.2 (i + 1)
      split <;> omega
    · have : (valsZ M z).getD i 0 = 0 := by
        rw [List.getD_eq_getElem?_getD, List.getElem?_eq_none (by simp [valsZ]; omega)]
        rfl
      omega
  · cases h
theorem fits_nat {z : List Bool} {v : List Int} (h : Fits z v) (i : Nat) : 0 ≤ v.getD i 0 := by
  by_cases hi : i < z.length
  · have := h.2 i hi
    split at this <;> omega
  · have hl := h.1
    simp [List.getElem?_eq_none (by omega : v.length ≤ i)]
theorem leq_some {cs : List Kn} (hg : ∀ z : List Bool, z.length = 3 → GoodKs cs z) {a b : L} (ha : RightS a (3 : Nat) 0 = true) (hb : RightS b (3 : Nat) 0 = true) {v : List Int} (h : leqU cs a b 3 = some v) : Vals cs v ∧ lvS b v [] < lvS a v [] := by
  obtain ⟨k, _, h1⟩ := firstU_some2 h
  have hgk := hg (caseP k 3) (caseP_len k 3)
  have ha' : RightS a (caseP k 3).length 0 = true := by rw [caseP_len]; exact ha
  have hb' : RightS b (caseP k 3).length 0 = true := by rw [caseP_len]; exact hb
  obtain ⟨x, hx, h2⟩ := List.exists_of_findSome?_eq_some h1
  obtain ⟨M, _, hrel, hF, hK, hM⟩ := okU_vals hgk h2
  have h3 := (holds_more hrel hF ha' hb' hx).1 hM
  have h4 := (lv_atoms ha' hF _).1 (Int.le_refl _) x hx
  exact ⟨⟨by rw [hF.1, caseP_len], fun i => ⟨fits_nat hF i, valO_bd (by rw [caseP_len]; omega) h2 i⟩, hK⟩, by omega⟩
theorem leq_none {cs : List Kn} (hg : ∀ z : List Bool, z.length = 3 → GoodKs cs z) {a b : L} (ha : RightS a (3 : Nat) 0 = true) (hb : RightS b (3 : Nat) 0 = true) (h : leqU cs a b 3 = none) {p : List Int} (hl : p.length = 3) (hp : ∀ i : Nat, 0 ≤ p.getD i 0) (hK : HoldK cs p) : lvS a p [] ≤ lvS b p [] := by
  obtain ⟨k, hk, hF⟩ := case3U hl hp
  have h1 := firstU_no h hk
  have hgk := hg (caseP k 3) (caseP_len k 3)
  have ha' : RightS a (caseP k 3).length 0 = true := by rw [caseP_len]; exact ha
  have hb' : RightS b (caseP k 3).length 0 = true := by rw [caseP_len]; exact hb
  by_cases hlt : lvS a p [] ≤ lvS b p []
  · exact hlt
  · exfalso
    obtain ⟨x, hx, hxe⟩ := lv_max ha' hF
    have h2 := List.findSome?_eq_none_iff.1 h1 x hx
    refine vals_okU hgk ?_ (okC_more ha' hb' hx) hF hp hK (fun M hrel => (holds_more hrel hF ha' hb' hx).2 (by omega)) h2
    rw [moreU_len]
    have := atomsF_len (flattenF b (caseP k 3))
    rw [flattenF_len hb', caseP_len] at this
    omega
end Pi


set_option linter.unusedSimpArgs false
set_option linter.unusedVariables false
namespace Pi
end Pi


set_option linter.unusedSimpArgs false
set_option linter.unusedVariables false
namespace Pi
end Pi


set_option linter.unusedSimpArgs false
set_option linter.unusedVariables false
namespace Pi
end Pi


set_option linter.unusedSimpArgs false
set_option linter.unusedVariables false
namespace Pi
end Pi


set_option linter.unusedSimpArgs false
set_option linter.unusedVariables false
namespace Pi
end Pi


set_option linter.unusedSimpArgs false
set_option linter.unusedVariables false
namespace Pi
end Pi


set_option linter.unusedSimpArgs false
set_option linter.unusedVariables false
namespace Pi
end Pi


set_option linter.unusedSimpArgs false
set_option linter.unusedVariables false
namespace Pi
theorem frzL_un {D : Nat → Option (Bool × List V × List V × List Nat)} {v : V} {r w : List V} {ids : List Nat} (h : frzL D (v :: r) = some (w, ids)) : ∃ u z i j, w = u :: z ∧ frzW D v = some (u, i) ∧ frzL D r = some (z, j) := by
  rw [frzL_cons] at h
  cases h1 : frzW D v with
  | none => rw [h1] at h; simp at h
  | some p =>
    cases h2 : frzL D r with
    | none => rw [h1, h2] at h; simp at h
    | some q =>
      rw [h1, h2] at h
      simp at h
      exact ⟨p.1, q.1, p.2, q.2, h.1.symm, rfl, rfl⟩
theorem FzAt.tail {m : Sto} {lo x k : Nat} {v u : V} {r z : List V} (h : FzAt m lo x k (v :: r) (u :: z)) : (∀ m' : Sto, (∀ j, lo ≤ j → j < x → m' j = m j) → ∀ d, k ≤ d → ∃ ids, frzW (der m' d) v = some (u, ids)) ∧ FzAt m lo x k r z := by
  constructor
  · intro m' hm d hd
    obtain ⟨ids, h0⟩ := h m' hm d hd
    obtain ⟨u', z', i, j, e, h1, h2⟩ := frzL_un h0
    injection e with e1 e2
    exact ⟨i, by rw [h1, e1]⟩
  · intro m' hm d hd
    obtain ⟨ids, h0⟩ := h m' hm d hd
    obtain ⟨u', z', i, j, e, h1, h2⟩ := frzL_un h0
    injection e with e1 e2
    exact ⟨j, by rw [h2, e2]⟩
end Pi

