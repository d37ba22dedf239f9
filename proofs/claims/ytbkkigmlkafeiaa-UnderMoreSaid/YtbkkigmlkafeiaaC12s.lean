/- Laws of layer 12: more. -/
import Derived.Test.YtbkkigmlkafeiaaC12n
set_option linter.unusedSimpArgs false
set_option linter.unusedVariables false
namespace Pi
theorem frzL_sub {D : Nat → Option (Bool × List V × List V × List Nat)} : ∀ {cs : List V} {r : List V × List Nat} (o n : Nat), frzL D cs = some r → ∃ ids, frzL D ((cs.drop o).take n) = some ((r.1.drop o).take n, ids)
  | [], r, o, n, h => by
    simp only [frzL, Option.some.injEq] at h
    subst h
    exact ⟨[], by simp [frzL]⟩
  | c :: cs, r, o, n, h => by
    rw [frzL_cons] at h
    simp only [Option.bind_eq_some_iff, Option.some.injEq] at h
    obtain ⟨x, h1, y, h2, rfl⟩ := h
    cases o with
    | zero =>
      cases n with
      | zero => exact ⟨[], by simp [frzL]⟩
      | succ n =>
        obtain ⟨ids, e⟩ := frzL_sub 0 n h2
        simp only [List.drop_zero] at e
        refine ⟨x.2 ++ ids, ?_⟩
        rw [List.drop_zero, List.take_succ_cons, frzL_cons, h1, e]
        rfl
    | succ o =>
      obtain ⟨ids, e⟩ := frzL_sub o n h2
      exact ⟨ids, by rw [List.drop_succ_cons, e]; rfl⟩
theorem flat_dropK : ∀ {cs : List Kn} {i : Nat} (hi : i < cs.length), (cs.flatMap cK).drop (i * 6) = cK cs[i] ++ (cs.drop (i + 1)).flatMap cK
  | c :: r, 0, _ => by simp
  | c :: r, i + 1, hi => by
    have ih := flat_dropK (cs := r) (i := i) (by simpa using hi)
    rw [List.flatMap_cons, Nat.succ_mul, Nat.add_comm, ← List.drop_drop, List.drop_append_of_le_length (by simp), cK_drop6, List.nil_append, ih]
    simp
set_option maxRecDepth 20000 in
set_option maxHeartbeats 8000000 in
theorem law12_UnderMore.a (l : List Nat) (hb : Byt l) (ll : l.length ≤ 9223372036854775807) : Ans ctx law12_UnderMore.n [sV cU l] (.b true) := by
  refine ans law12_UnderMore.f ?_
  have bd1 := (mkS_bd l 3 0 3 0).2
  have bd2 := (mkS_bd l 3 0 3 (mkS l 3 0 3 0).2).2
  have h44 : 4 ^ (3 + 1) = 256 := by decide
  simp +contextual (disch := omega) [Nat.add_assoc, Int.add_assoc, if_pos, if_neg, -Int.not_lt, -Int.not_le, -Nat.not_lt, -Nat.not_le, -List.length_flatMap, law12_UnderMore.c, ansK law12_awake.a]
  refine made_w l hb 3 0 (by omega) (by omega) 6 2 (by omega) 0 (by omega) (by omega) (by simp +contextual (disch := omega) [Nat.add_assoc, Int.add_assoc, if_pos, if_neg, -Int.not_lt, -Int.not_le, -Nat.not_lt, -Nat.not_le, -List.length_flatMap]) ?_
  have okA := mkS_ok l 3 0 (by omega) (by omega) 3 0
  have okB := mkS_ok l 3 0 (by omega) (by omega) 3 (mkS l 3 0 3 0).2
  have rA := mkS_right3 l 0
  have rB := mkS_right3 l (mkS l 3 0 3 0).2
  intro c1 m1 x1 h1 h2 h3 h4 h5
  simp +contextual (disch := omega) [Nat.add_assoc, Int.add_assoc, if_pos, if_neg, -Int.not_lt, -Int.not_le, -Nat.not_lt, -Nat.not_le, -List.length_flatMap]
  refine made_w l hb 3 0 (by omega) (by omega) 6 2 (by omega) (mkS l 3 0 3 0).2 (by omega) (by omega) (by simp +contextual (disch := omega) [Nat.add_assoc, Int.add_assoc, if_pos, if_neg, -Int.not_lt, -Int.not_le, -Nat.not_lt, -Nat.not_le, -List.length_flatMap, h2]) ?_
  intro c2 m2 x2 q1 q2 q3 q4 q5
  obtain ⟨a0, a1, a2, rfl⟩ : ∃ a0 a1 a2, c1 = [a0, a1, a2] := by
    match c1, h1 with
    | [a, b, c], _ => exact ⟨a, b, c, rfl⟩
  obtain ⟨b0, b1, b2, rfl⟩ : ∃ a0 a1 a2, c2 = [a0, a1, a2] := by
    match c2, q1 with
    | [a, b, c], _ => exact ⟨a, b, c, rfl⟩
  generalize (mkS l 3 0 3 (mkS l 3 0 3 0).2) = R2 at *
  generalize (mkS l 3 0 3 0) = R1 at *
  simp +contextual (disch := omega) [Nat.add_assoc, Int.add_assoc, if_pos, if_neg, -Int.not_lt, -Int.not_le, -Nat.not_lt, -Nat.not_le, -List.length_flatMap]
  refine cons_w l hb 3 (by omega) 6 5 (by omega) R2.2 (by omega) (by omega) (by simp +contextual (disch := omega) [Nat.add_assoc, Int.add_assoc, if_pos, if_neg, -Int.not_lt, -Int.not_le, -Nat.not_lt, -Nat.not_le, -List.length_flatMap, q2]) ?_
  intro B m3 x3 hx3 z7 z8 hB
  have hok := consS_ok l 3 (by omega) (pickS l R2.2 (5 + 1)) (R2.2 + 1)
  have hri := consS_right l (pickS l R2.2 (5 + 1)) (R2.2 + 1)
  have hln := consS_len l 3 (pickS l R2.2 (5 + 1)) (R2.2 + 1)
  have hpk := pickS_lt l R2.2 (5 + 1) (by omega)
  generalize pickS l R2.2 (5 + 1) = kk at *
  generalize (consS l 3 kk (R2.2 + 1)).1 = cs at *
  generalize R2.1 = C at *
  generalize R1.1 = A at *
  have hU := rightU3 (cs := cs) (by omega) hri
  have hGd := goodK3 hok (by omega) hri
  have hR : leqRU cs 3 A C = true := by
    unfold leqRU
    rw [hU]
    simp only [Bool.true_and, Bool.and_eq_true]
    exact ⟨rA, rB⟩
  have e3 : (3 : Int).toNat = 3 := rfl
  have hLq : ∀ (ks : List Kn), (∀ c ∈ ks, c ∈ cs) → ks.length ≤ 8 → ∀ X Y : L, X.Ok → Y.Ok → RightS X (3 : Nat) 0 = true → RightS Y (3 : Nat) 0 = true → AnsF ctx under_Leq.n [sV cK ks, .i .i64 3, .ag (cL X), .ag (cL Y)] (fun x => .tu [.b (!(leqU ks X Y 3).isSome), outU (leqU ks X Y 3) x, .i .i64 0]) (outC (leqU ks X Y 3)) := fun ks hs hl8 X Y oX oY rX rY => by
    have hL := under_Leq.r ks (fun c hc => hok c (hs c hc)) (by omega) 3 X Y oX oY
    have hR : leqRU ks 3 X Y = true := by
      unfold leqRU
      rw [rightU3 hl8 (fun c hc => hri c (hs c hc))]
      simp only [Bool.true_and, Bool.and_eq_true]
      exact ⟨rX, rY⟩
    unfold leqBU leqOU leqEU at hL
    rw [hR, e3] at hL
    simpa only [if_true, Bool.true_and] using hL
  have hG : ∀ ks : List Kn, (∀ c ∈ ks, c ∈ cs) → ks.length ≤ 8 → ∀ z : List Bool, z.length = 3 → GoodKs ks z := fun ks hs hl8 => goodK3 (fun c hc => hok c (hs c hc)) hl8 (fun c hc => hri c (hs c hc))
  have hY := ref07_Leq.a A C okA okB 3
  unfold leqV at hY
  rw [if_pos ⟨rA, rB⟩, e3] at hY
  obtain ⟨vY, hvY, _, _⟩ := leqR_eq A C 3
  rw [hvY] at hY
  have hxy : (!(leqU [] A C 3).isSome) = leqB A C 3 := by
    have hg0 := hG [] (fun c hc => by cases hc) (by simp)
    cases ho : leqU [] A C 3 with
    | none =>
      cases hb : leqB A C 3 with
      | true => rfl
      | false =>
        unfold leqB at hb
        cases hbd : badAt (casesF A 3) (casesF C 3) 0 with
        | none => rw [hbd] at hb; cases hb
        | some k =>
          obtain ⟨v1, v2, v3⟩ := leq_false rA rB hbd
          have := leq_none hg0 rA rB ho v1 (fun i => (v2.getD i).1) (fun c hc => by cases hc)
          omega
    | some v =>
      cases hb : leqB A C 3 with
      | false => rfl
      | true =>
        obtain ⟨hv, hlt⟩ := leq_some hg0 rA rB ho
        have hnv : Nats v := fun a ha => by
          obtain ⟨i, hi, rfl⟩ := List.getElem_of_mem ha
          have := hv.nat i
          simp [hi] at this
          omega
        have := leq_true rA rB hb hv.len hnv
        omega
  have hmono : ∀ i, (leqU (cs.take i) A C 3).isSome = false → (leqU (cs.take (i + 1)) A C 3).isSome = false := fun i h => by
    cases h1 : leqU (cs.take (i + 1)) A C 3 with
    | none => rfl
    | some v =>
      have g1 := hG (cs.take (i + 1)) (fun c hc => List.mem_of_mem_take hc) (by rw [List.length_take]; omega)
      have g0 := hG (cs.take i) (fun c hc => List.mem_of_mem_take hc) (by rw [List.length_take]; omega)
      obtain ⟨hv, hlt⟩ := leq_some g1 rA rB h1
      have h0 : leqU (cs.take i) A C 3 = none := by
        cases hh : leqU (cs.take i) A C 3 with
        | none => rfl
        | some w => rw [hh] at h; cases h
      have := leq_none g0 rA rB h0 hv.len (fun i => (hv.nat i).1) (fun c hc => hv.hold c ((List.take_subset_take_left cs (Nat.le_succ i)) hc))
      omega
  have hself : ∀ c ∈ cs, leqU cs c.a c.b 3 = none := fun c hc => by
    cases h1 : leqU cs c.a c.b 3 with
    | none => rfl
    | some v =>
      obtain ⟨hv, hlt⟩ := leq_some (hG cs (fun c h => h) (by omega)) (hri c hc).1 (hri c hc).2 h1
      have := hv.hold c hc
      omega
  have eA := cL_at A
  have eC := cL_at C
  obtain ⟨ta, hta⟩ : ∃ t, t = sV cL A.kids := ⟨_, rfl⟩
  obtain ⟨tc, htc⟩ : ∃ t, t = sV cL C.kids := ⟨_, rfl⟩
  rw [← hta] at eA
  rw [← htc] at eC
  generalize A.kind = ka at eA
  generalize A.n = na at eA
  generalize C.kind = kc at eC
  generalize C.n = nc at eC
  rw [eA] at h5
  rw [eC] at q5
  have hL0 := hLq [] (fun c hc => by cases hc) (by simp) A C okA okB rA rB
  have hLi := fun i => hLq (cs.take i) (fun c hc => List.mem_of_mem_take hc) (by rw [List.length_take]; omega) A C okA okB rA rB
  rw [eA, eC] at hL0 hY
  simp only [eA, eC] at hLi
  have hsl0 : sV cK [] = V.sl [] 0 := rfl
  rw [hsl0] at hL0
  obtain ⟨fa0, h5⟩ := h5.tail
  obtain ⟨fa1, h5⟩ := h5.tail
  obtain ⟨fa2, h5⟩ := h5.tail
  obtain ⟨fb0, q5⟩ := q5.tail
  obtain ⟨fb1, q5⟩ := q5.tail
  obtain ⟨fb2, q5⟩ := q5.tail
  have mem : ∀ M : Sto, (∀ j, 7 ≤ j → j < x2 → M j = m2 j) → ∀ d, 5 ≤ d → (∃ ids, frzW (der M d) a0 = some (.i .i64 ka, ids)) ∧ (∃ ids, frzW (der M d) a1 = some (.i .i64 na, ids)) ∧ (∃ ids, frzW (der M d) a2 = some (ta, ids)) ∧
      (∃ ids, frzW (der M d) b0 = some (.i .i64 kc, ids)) ∧ (∃ ids, frzW (der M d) b1 = some (.i .i64 nc, ids)) ∧ (∃ ids, frzW (der M d) b2 = some (tc, ids)) := fun M hM d hd =>
    have h1 : ∀ j, 9 ≤ j → j < x1 → M j = m1 j := fun j p1 p2 => (hM j (by omega) (by omega)).trans (q3 j (by omega) (by omega))
    have h2 : ∀ j, x1 + 1 ≤ j → j < x2 → M j = m2 j := fun j p1 p2 => hM j (by omega) p2
    ⟨fa0 M h1 d (by omega), fa1 M h1 d (by omega), fa2 M h1 d (by omega), fb0 M h2 d (by omega), fb1 M h2 d (by omega), fb2 M h2 d (by omega)⟩
  have ha3 : m3 x2 = some (.cells [a0, a1, a2] false) := by rw [z8 x2 (by omega) (by omega)]; simp +contextual (disch := omega) [Nat.add_assoc, Int.add_assoc, if_pos, if_neg, -Int.not_lt, -Int.not_le, -Nat.not_lt, -Nat.not_le, -List.length_flatMap]
  have hb3 : m3 (x2 + 1) = some (.cells [b0, b1, b2] false) := by rw [z8 (x2 + 1) (by omega) (by omega)]; simp +contextual (disch := omega) [Nat.add_assoc, Int.add_assoc, if_pos, if_neg, -Int.not_lt, -Int.not_le, -Nat.not_lt, -Nat.not_le, -List.length_flatMap]
  have hj3 : ∀ j, 7 ≤ j → j < x2 → m3 j = m2 j := fun j p1 p2 => by rw [z8 j (by omega) (by omega)]; simp +contextual (disch := omega) [Nat.add_assoc, Int.add_assoc, if_pos, if_neg, -Int.not_lt, -Int.not_le, -Nat.not_lt, -Nat.not_le, -List.length_flatMap]
  clear fa0 fa1 fa2 fb0 fb1 fb2 h3 q3 h2 q2 z8
  have hst := hB.stor
  have hsc := hB.cells
  have cut : ∀ M : Sto, (∀ j, j < x3 → bare (M j) = bare (m3 j)) → ∃ M' : Sto, (∀ j, j < x3 → M' j = m3 j) ∧ ∀ d, der M d = der M' d := fun M h => by
    refine ⟨fun j => if j < x3 then m3 j else M j, fun j hj => if_pos hj, fun d => (der_bare (fun j => ?_) d).symm⟩
    by_cases hj : j < x3
    · rw [if_pos hj, h j hj]
    · rw [if_neg hj]
  have facts : ∀ M : Sto, (∀ j, j < x3 → bare (M j) = bare (m3 j)) → (∃ ids, frzW (der M 24) a0 = some (.i .i64 ka, ids)) ∧ (∃ ids, frzW (der M 24) a1 = some (.i .i64 na, ids)) ∧ (∃ ids, frzW (der M 24) a2 = some (ta, ids)) ∧
      (∃ ids, frzW (der M 24) b0 = some (.i .i64 kc, ids)) ∧ (∃ ids, frzW (der M 24) b1 = some (.i .i64 nc, ids)) ∧ (∃ ids, frzW (der M 24) b2 = some (tc, ids)) ∧ ∃ ids, frzW (der M 24) B = some (sV cK cs, ids) := fun M h => by
    obtain ⟨M', e1, e2⟩ := cut M h
    rw [e2]
    have h1 := mem M' (fun j p1 p2 => (e1 j (by omega)).trans (hj3 j p1 p2)) 24 (by omega)
    exact ⟨h1.1, h1.2.1, h1.2.2.1, h1.2.2.2.1, h1.2.2.2.2.1, h1.2.2.2.2.2, (hB.up (m' := M') (Nat.le_refl x3) (fun j p1 p2 => e1 j p2)).fz24 (by omega)⟩
  have lda : ∀ M : Sto, (∀ j, j < x3 → bare (M j) = bare (m3 j)) → (∀ ag n off, ldO (M x2) ag n off = ldO (some (.cells [a0, a1, a2] false)) ag n off) ∧ ∀ ag n off, ldO (M (x2 + 1)) ag n off = ldO (some (.cells [b0, b1, b2] false)) ag n off := fun M h =>
    ⟨fun ag n off => by rw [ldO_bare, h x2 (by omega), ha3, ← ldO_bare], fun ag n off => by rw [ldO_bare, h (x2 + 1) (by omega), hb3, ← ldO_bare]⟩
  obtain ⟨⟨_, f1⟩, ⟨_, f2⟩, ⟨_, f3⟩, ⟨_, f4⟩, ⟨_, f5⟩, ⟨_, f6⟩, ⟨_, hz⟩⟩ := facts m3 (fun _ _ => rfl)
  simp +contextual (disch := omega) [Nat.add_assoc, Int.add_assoc, if_pos, if_neg, -Int.not_lt, -Int.not_le, -Nat.not_lt, -Nat.not_le, -List.length_flatMap, ha3, hb3, hst, hsc]
  refine under_Leq.fr ?_
  simp +contextual (disch := omega) [Nat.add_assoc, Int.add_assoc, if_pos, if_neg, -Int.not_lt, -Int.not_le, -Nat.not_lt, -Nat.not_le, -List.length_flatMap, f1, f2, f3, f4, f5, f6]
  refine ansFK hL0 ?_
  have hC0 := outC_lt (leqU [] A C 3) m3 (x3 + 3)
  clear f1 f2 f3 f4 f5 f6 hz
  dsimp only
  rw [hxy]
  generalize leqU [] A C 3 = o0 at *
  generalize leqB A C 3 = xy at *
  generalize fM m3 (x3 + 3) (outC o0) = m4 at *
  generalize fX (x3 + 3) (outC o0) = x4 at *
  have hb4 : ∀ j, j < x3 → bare (m4 j) = bare (m3 j) := fun j hj => by rw [hC0.2 j (by omega)]
  have hx4 := hC0.1
  obtain ⟨⟨_, f1⟩, ⟨_, f2⟩, ⟨_, f3⟩, ⟨_, f4⟩, ⟨_, f5⟩, ⟨_, f6⟩, ⟨_, hz⟩⟩ := facts m4 hb4
  obtain ⟨la, lb⟩ := lda m4 hb4
  simp +contextual (disch := omega) [Nat.add_assoc, Int.add_assoc, if_pos, if_neg, -Int.not_lt, -Int.not_le, -Nat.not_lt, -Nat.not_le, -List.length_flatMap, la, lb, f1, f2, f3, f4, f5, f6, ansK hY]
  have hb5 := fun (w : V) (ids : List Nat) (j : Nat) (hj : j < x3) => (bare_aft w ids m4 j).trans (hb4 j hj)
  clear f1 f2 f3 f4 f5 f6 hz la lb
  rcases hB with ⟨rfl, rfl⟩ | ⟨b, cc, rfl, k2, ⟨k3, k4⟩, k5, k6⟩
  · refine un_w ?_
    simp +contextual (disch := omega) [Nat.add_assoc, Int.add_assoc, if_pos, if_neg, -Int.not_lt, -Int.not_le, -Nat.not_lt, -Nat.not_le, -List.length_flatMap, law12_UnderMore.b1]
  have more : ∀ M : Sto, (∀ j, j < x3 → bare (M j) = bare (m3 j)) → (∀ h, h ≤ cs.length → ∃ ids, frzW (der M 24) (.ms b 0 h 6) = some (sV cK (cs.take h), ids)) ∧ (∀ i (hi : i < cs.length), (∃ ids, frzL (der M 24) ((cc.drop (i * 6)).take 3) = some (cL cs[i].a, ids)) ∧ ∃ ids, frzL (der M 24) ((cc.drop (i * 6 + 3)).take 3) = some (cL cs[i].b, ids)) ∧
      ∀ ag n off, ldO (M b) ag n off = ldO (some (.cells cc false)) ag n off := fun M h => by
    obtain ⟨M', e1, e2⟩ := cut M h
    refine ⟨fun h hh => ?_, fun i hi => ?_, fun ag n off => by rw [ldO_bare, h b k6, k2, ← ldO_bare]⟩
    · obtain ⟨ids, e⟩ := k4 M' (fun j p1 p2 p3 => e1 j p2) 23 (by omega)
      rw [e2, frzW_ms, der_s, e1 b k6, k2, derO_cells, e]
      have hfl : (cs.flatMap cK).length = cs.length * 6 := flat_len cs
      have hle : h * 6 ≤ cs.length * 6 := Nat.mul_le_mul_right 6 hh
      have htk : (cs.flatMap cK).take (h * 6) = (cs.take h).flatMap cK := flat_take cs h
      refine ⟨b :: ids, ?_⟩
      simp only [Option.bind_some, true_and, List.drop_zero, Nat.zero_add]
      rw [if_pos (by omega), htk]
      simp only [sV, List.length_take, Nat.min_eq_left hh]
    · obtain ⟨ids, e⟩ := k4 M' (fun j p1 p2 p3 => e1 j p2) 24 (by omega)
      have hd := flat_dropK hi
      have s1 := frzL_sub (i * 6) 3 e
      have s2 := frzL_sub (i * 6 + 3) 3 e
      rw [e2]
      simp only at s1 s2
      rw [hd, List.take_append_of_le_length (by simp), cK_take3] at s1
      have hd3 : (cs.flatMap cK).drop (i * 6 + 3) = cL cs[i].b ++ (cs.drop (i + 1)).flatMap cK := by rw [← List.drop_drop, hd, List.drop_append_of_le_length (by simp), cK_drop3]
      have ht3 : (cL cs[i].b ++ (cs.drop (i + 1)).flatMap cK).take 3 = cL cs[i].b := by rw [List.take_append_of_le_length (by rw [cL_len]; exact Nat.le_refl _), List.take_of_length_le (by rw [cL_len]; exact Nat.le_refl _)]
      rw [hd3, ht3] at s2
      exact ⟨s1, s2⟩
  refine for_w (fun i e m x => e 3 = .b true ∧ e 5 = .p x2 0 ∧ e 6 = .p (x2 + 1) 0 ∧ e 7 = .ms b 0 cs.length 6 ∧ e 14 = .i .i64 i ∧ x3 ≤ x ∧ ∀ j, j < x3 → bare (m j) = bare (m3 j)) cs.length ?_ ?_ ?_
  · simp +contextual (disch := omega) [Nat.add_assoc, Int.add_assoc, if_pos, if_neg, -Int.not_lt, -Int.not_le, -Nat.not_lt, -Nat.not_le, -List.length_flatMap]
    exact ⟨by omega, fun j hj => hb5 _ _ j hj⟩
  · rintro i e m x hi ⟨g3, g5, g6, g7, g14, gx, gm⟩
    have hci := hself _ (List.getElem_mem hi)
    have hrc := hri _ (List.getElem_mem hi)
    have hoc := hok _ (List.getElem_mem hi)
    have hLc := hLq cs (fun c h => h) (by omega) cs[i].a cs[i].b hoc.1 hoc.2 hrc.1 hrc.2
    rw [hci] at hLc
    replace hLc : AnsF ctx under_Leq.n [sV cK cs, .i .i64 3, .ag (cL cs[i].a), .ag (cL cs[i].b)] (fun x => .tu [.b true, .ns, .i .i64 0]) none := hLc
    have hcl : i * 6 + 6 ≤ cc.length := by rw [k3]; omega
    obtain ⟨hm1, hm2, hm3⟩ := more m gm
    obtain ⟨_, hz⟩ := hm1 cs.length (Nat.le_refl _)
    rw [List.take_length] at hz
    obtain ⟨⟨_, t1⟩, ⟨_, t2⟩⟩ := hm2 i hi
    simp +contextual (disch := omega) [Nat.add_assoc, Int.add_assoc, if_pos, if_neg, -Int.not_lt, -Int.not_le, -Nat.not_lt, -Nat.not_le, -List.length_flatMap, law12_UnderMore.b1, g3, g5, g6, g7, g14, hi, hm3, hcl]
    refine under_Leq.fr ?_
    simp +contextual (disch := omega) [Nat.add_assoc, Int.add_assoc, if_pos, if_neg, -Int.not_lt, -Int.not_le, -Nat.not_lt, -Nat.not_le, -List.length_flatMap, hz, t1, t2, -frzW_ms]
    refine ansFK hLc ?_
    obtain ⟨la, lb⟩ := lda m gm
    obtain ⟨⟨_, f1⟩, ⟨_, f2⟩, ⟨_, f3⟩, ⟨_, f4⟩, ⟨_, f5⟩, ⟨_, f6⟩, _⟩ := facts m gm
    obtain ⟨_, hz1⟩ := hm1 i (by omega)
    simp +contextual (disch := omega) [Nat.add_assoc, Int.add_assoc, if_pos, if_neg, -Int.not_lt, -Int.not_le, -Nat.not_lt, -Nat.not_le, -List.length_flatMap, g3, g5, g6, g7, g14, la, lb, hi]
    refine under_Leq.fr ?_
    simp +contextual (disch := omega) [Nat.add_assoc, Int.add_assoc, if_pos, if_neg, -Int.not_lt, -Int.not_le, -Nat.not_lt, -Nat.not_le, -List.length_flatMap, hz1, f1, f2, f3, f4, f5, f6, -frzW_ms]
    refine ansFK (hLi i) ?_
    have hm0 := hmono i
    dsimp only
    generalize leqU (List.take i cs) A C 3 = o1 at *
    have hC1 := outC_lt o1 m (x + 27)
    generalize fM m (x + 27) (outC o1) = m6 at *
    generalize fX (x + 27) (outC o1) = x6 at *
    have gm6 : ∀ j, j < x3 → bare (m6 j) = bare (m3 j) := fun j hj => by rw [hC1.2 j (by omega), gm j hj]
    clear f1 f2 f3 f4 f5 f6 hz hz1 t1 t2 la lb hm1 hm2 hm3
    obtain ⟨hm1, _, _⟩ := more m6 gm6
    obtain ⟨la, lb⟩ := lda m6 gm6
    obtain ⟨⟨_, f1⟩, ⟨_, f2⟩, ⟨_, f3⟩, ⟨_, f4⟩, ⟨_, f5⟩, ⟨_, f6⟩, _⟩ := facts m6 gm6
    obtain ⟨_, hz1⟩ := hm1 (i + 1) (by omega)
    simp +contextual (disch := omega) [Nat.add_assoc, Int.add_assoc, if_pos, if_neg, -Int.not_lt, -Int.not_le, -Nat.not_lt, -Nat.not_le, -List.length_flatMap, g3, g5, g6, g7, g14, la, lb, hi]
    refine under_Leq.fr ?_
    simp +contextual (disch := omega) [Nat.add_assoc, Int.add_assoc, if_pos, if_neg, -Int.not_lt, -Int.not_le, -Nat.not_lt, -Nat.not_le, -List.length_flatMap, hz1, f1, f2, f3, f4, f5, f6, -frzW_ms]
    refine ansFK (hLi (i + 1)) ?_
    dsimp only
    generalize leqU (List.take (i + 1) cs) A C 3 = o2 at *
    have hC2 := outC_lt o2 m6 (x6 + 13)
    generalize fM m6 (x6 + 13) (outC o2) = m7 at *
    generalize fX (x6 + 13) (outC o2) = x7 at *
    have gm7 : ∀ j, j < x3 → bare (m7 j) = bare (m3 j) := fun j hj => by rw [hC2.2 j (by omega), gm6 j hj]
    have hx7 : x3 ≤ x7 := by omega
    cases q1 : o1.isSome with
    | false =>
      have q2 := hm0 q1
      have q3 : o1.isNone = true := by cases o1 <;> simp_all
      have q4 : o2.isNone = true := by cases o2 <;> simp_all
      simp +contextual (disch := omega) [Nat.add_assoc, Int.add_assoc, if_pos, if_neg, -Int.not_lt, -Int.not_le, -Nat.not_lt, -Nat.not_le, -List.length_flatMap, g3, g5, g6, g7, g14, q1, q2, q3, q4]
      exact ⟨by omega, gm7⟩
    | true =>
      have q3 : o1.isNone = false := by cases o1 <;> simp_all
      simp +contextual (disch := omega) [Nat.add_assoc, Int.add_assoc, if_pos, if_neg, -Int.not_lt, -Int.not_le, -Nat.not_lt, -Nat.not_le, -List.length_flatMap, g3, g5, g6, g7, g14, q1, q3]
      exact ⟨by omega, gm7⟩
  · rintro e m x ⟨g3, g5, g6, g7, g14, gx, gm⟩
    simp +contextual (disch := omega) [Nat.add_assoc, Int.add_assoc, if_pos, if_neg, -Int.not_lt, -Int.not_le, -Nat.not_lt, -Nat.not_le, -List.length_flatMap, law12_UnderMore.b1, g3, g5, g6, g7, g14]
end Pi

