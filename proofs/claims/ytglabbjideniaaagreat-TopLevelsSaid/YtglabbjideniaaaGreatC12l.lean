/- Laws of layer 12: constraints by numbers. -/
import Derived.Test.YtglabbjideniaaaGreatC12d
import Derived.Test.YtglabbjideniaaaGreatC09d
set_option linter.unusedSimpArgs false
set_option linter.unusedVariables false
namespace Pi
/-- So many constraints that a maker makes, and how many it has picked then. -/
def consS (l : List Nat) (p : Nat) : Nat → Nat → List Kn × Nat
  | 0, i => ([], i)
  | k + 1, i => (⟨(mkS l p 0 3 i).1, (mkS l p 0 3 (mkS l p 0 3 i).2).1⟩ :: (consS l p k (mkS l p 0 3 (mkS l p 0 3 i).2).2).1, (consS l p k (mkS l p 0 3 (mkS l p 0 3 i).2).2).2)
theorem consS_len (l : List Nat) (p : Nat) : ∀ k i, (consS l p k i).1.length = k
  | 0, i => rfl
  | k + 1, i => by simp [consS, consS_len l p k]
theorem consS_ok (l : List Nat) (p : Nat) (hp : p ≤ 256) : ∀ k i, ∀ c ∈ (consS l p k i).1, c.Ok
  | 0, i, c, h => by cases h
  | k + 1, i, c, h => by
    rcases List.mem_cons.1 h with rfl | h
    · exact ⟨mkS_ok l p 0 (by omega) (by omega) 3 _, mkS_ok l p 0 (by omega) (by omega) 3 _⟩
    · exact consS_ok l p hp k _ c h
set_option maxRecDepth 20000 in
set_option maxHeartbeats 2000000 in
theorem cons_w (l : List Nat) (hb : Byt l) (p : Nat) (hp : p ≤ 256) (a : Nat) (n : Nat) (hn : n ≤ 10) (i : Nat) (hi : i ≤ 100000) {m : Sto} {x : Nat} {K : CR → Sto → Nat → Prop} (hax : a < x) (hm : m a = some (.cells [sV cU l, .i .i64 i] false))
    (hK : ∀ B m' x', x ≤ x' → m' a = some (.cells [sV cU l, .i .i64 ((consS l p (pickS l i (n + 1)) (i + 1)).2 : Nat)] false) → (∀ j, j < x → j ≠ a → m' j = m j) → Bn m' B cK 6 (consS l p (pickS l i (n + 1)) (i + 1)).1 x x' 4 → K (.ret B) m' x') :
    wpCall ctx (.fn (.func law12_Cons.n) [] []) [.p a 0, .i .i64 p, .i .i64 n] m x K := by
  refine open_w law12_Cons.f rfl (.inl rfl) ?_
  simp +contextual (disch := omega) [Nat.add_assoc, Int.add_assoc, if_pos, if_neg, -Int.not_lt, -Int.not_le, -Nat.not_lt, -Nat.not_le, -List.length_flatMap, law12_Cons.c]
  refine pick_w (l := l) (i := i) (n := n + 1) (by simp +contextual (disch := omega) [Nat.add_assoc, Int.add_assoc, if_pos, if_neg, -Int.not_lt, -Int.not_le, -Nat.not_lt, -Nat.not_le, -List.length_flatMap, hm]) hb (by omega) (by omega) ?_
  intro x1 hx1
  have hk := pickS_lt l i (n + 1) (by omega)
  generalize pickS l i (n + 1) = k at *
  obtain ⟨T, hT⟩ : ∃ T, T = consS l p k (i + 1) := ⟨_, rfl⟩
  rw [← hT] at hK
  have hTl : T.1.length = k := by rw [hT, consS_len]
  simp +contextual (disch := omega) [Nat.add_assoc, Int.add_assoc, if_pos, if_neg, -Int.not_lt, -Int.not_le, -Nat.not_lt, -Nat.not_le, -List.length_flatMap]
  refine for_w (fun r e m' x' => e 0 = .p a 0 ∧ e 1 = .i .i64 p ∧ e 8 = .i .i64 ((k : Int) - r) ∧ x ≤ x' ∧ (∀ j, j < x → j ≠ a → m' j = m j) ∧ ∃ (o : List Kn) (q : Nat), m' a = some (.cells [sV cU l, .i .i64 q] false) ∧ Bn m' (e 7) cK 6 o x x' 4 ∧ o.length = r ∧ q ≤ i + 1 + 512 * r ∧ o ++ (consS l p (k - r) q).1 = T.1 ∧ (consS l p (k - r) q).2 = T.2) k ?_ ?_ ?_
  · simp +contextual (disch := omega) [Nat.add_assoc, Int.add_assoc, if_pos, if_neg, -Int.not_lt, -Int.not_le, -Nat.not_lt, -Nat.not_le, -List.length_flatMap]
    exact ⟨by omega, [], i + 1, by omega, Bn.nil, rfl, by omega, by rw [hT]; rfl, by rw [hT]⟩
  · rintro r e m' x' hr ⟨g0, g1, g8, gx, gm, o, q, ga, gB, gl, gq, gT1, gT2⟩
    obtain ⟨k', hk'⟩ : ∃ k', k - r = k' + 1 := ⟨k - r - 1, by omega⟩
    have hk2 : k - (r + 1) = k' := by omega
    rw [hk2]
    rw [hk'] at gT1 gT2
    simp only [consS] at gT1 gT2
    have b1 := mkS_bd l p 0 3 q
    have b2 := mkS_bd l p 0 3 (mkS l p 0 3 q).2
    have h44 : 4 ^ (3 + 1) = 256 := by decide
    have hst := gB.stor
    have hsc := gB.cells
    generalize hV : e 7 = V7 at *
    simp +contextual (disch := omega) [Nat.add_assoc, Int.add_assoc, if_pos, if_neg, -Int.not_lt, -Int.not_le, -Nat.not_lt, -Nat.not_le, -List.length_flatMap, law12_Cons.b1, g0, g1, g8, hV, hr]
    refine made_w l hb p 0 hp (by omega) a 2 (by omega) q (by omega) (by omega) (by simp +contextual (disch := omega) [Nat.add_assoc, Int.add_assoc, if_pos, if_neg, -Int.not_lt, -Int.not_le, -Nat.not_lt, -Nat.not_le, -List.length_flatMap, ga]) ?_
    intro c1 m1 y1 hl1 ha1 hm1 hx1 hz1
    simp +contextual (disch := omega) [Nat.add_assoc, Int.add_assoc, if_pos, if_neg, -Int.not_lt, -Int.not_le, -Nat.not_lt, -Nat.not_le, -List.length_flatMap, g0, g1, g8, hV]
    refine made_w l hb p 0 hp (by omega) a 2 (by omega) (mkS l p 0 3 q).2 (by omega) (by omega) (by simp +contextual (disch := omega) [Nat.add_assoc, Int.add_assoc, if_pos, if_neg, -Int.not_lt, -Int.not_le, -Nat.not_lt, -Nat.not_le, -List.length_flatMap, ha1]) ?_
    intro c2 m2 y2 hl2 ha2 hm2 hx2 hz2
    generalize (mkS l p 0 3 (mkS l p 0 3 q).2) = R2 at *
    generalize (mkS l p 0 3 q) = R1 at *
    have hz := (hz1.up (m' := m2) (x' := y2) (by omega) (Nat.le_refl _) (fun j h1 h2 => hm2 j (by omega) (by omega))).app (hz2.low (lo' := x' + 5) (by omega))
    obtain ⟨a0, a1, a2, rfl⟩ : ∃ a0 a1 a2, c1 = [a0, a1, a2] := by
      match c1, hl1 with
      | [a, b, c], _ => exact ⟨a, b, c, rfl⟩
    obtain ⟨d0, d1, d2, rfl⟩ : ∃ a0 a1 a2, c2 = [a0, a1, a2] := by
      match c2, hl2 with
      | [a, b, c], _ => exact ⟨a, b, c, rfl⟩
    simp +contextual (disch := omega) [Nat.add_assoc, Int.add_assoc, if_pos, if_neg, -Int.not_lt, -Int.not_le, -Nat.not_lt, -Nat.not_le, -List.length_flatMap, g0, g1, g8, hV, hst, hsc, -apV_ns]
    refine gB.ap ⟨R1.1, R2.1⟩ (fun j h1 h2 => by rw [Sto.sne _ _ _ _ (by omega), hm2 j (by omega) (by omega), hm1 j (by omega) (by omega)]) (by omega) gx
      ((hz.up (m' := m2.set (y2 + 1) (some (litO 6 [a0, a1, a2, d0, d1, d2]))) (x' := y2 + 2) (k' := 4) (by omega) (by omega) (fun j h1 h2 => Sto.sne _ _ _ _ (by omega))).low (by omega)) rfl rfl (by omega) ?_
    intro B' ws m3 z0 z1 z2 z3
    have za : m3 a = some (.cells [sV cU l, .i .i64 (R2.2 : Nat)] false) := by rw [z2 a hax, Sto.sne _ _ _ _ (by omega), ha2]
    simp +contextual (disch := omega) [Nat.add_assoc, Int.add_assoc, if_pos, if_neg, -Int.not_lt, -Int.not_le, -Nat.not_lt, -Nat.not_le, -List.length_flatMap, z0, g0, g1, g8]
    refine ⟨by omega, by omega, fun j h1 h2 => ?_, o ++ [⟨R1.1, R2.1⟩], R2.2, za, z1.up (by omega) (fun _ _ _ => rfl), by simp [gl], by omega, by rw [List.append_assoc]; exact gT1, gT2⟩
    rw [z2 j (by omega), Sto.sne _ _ _ _ (by omega), hm2 j (by omega) (by omega), hm1 j (by omega) (by omega), gm j h1 h2]
  · rintro e m' x' ⟨g0, g1, g8, gx, gm, o, q, ga, gB, gl, gq, gT1, gT2⟩
    rw [Nat.sub_self] at gT1 gT2
    simp only [consS, List.append_nil] at gT1 gT2
    rw [gT1] at gB
    rw [gT2] at ga
    generalize hV : e 7 = V7 at *
    have hst := gB.stor
    have hsc := gB.cells
    simp +contextual (disch := omega) [Nat.add_assoc, Int.add_assoc, if_pos, if_neg, -Int.not_lt, -Int.not_le, -Nat.not_lt, -Nat.not_le, -List.length_flatMap, law12_Cons.b1, g0, g1, g8, hV]
    exact hK _ _ _ (by omega) ga gm (gB.up (by omega) (fun _ _ _ => rfl))
end Pi


set_option linter.unusedSimpArgs false
set_option linter.unusedVariables false
namespace Pi
end Pi


set_option linter.unusedSimpArgs false
set_option linter.unusedVariables false
namespace Pi
theorem mkS_right3 (l : List Nat) (i : Nat) : RightS (mkS l 3 0 3 i).1 (3 : Nat) 0 = true := RightS_of (q := 0) (by omega) (by omega) (by have : szL (mkS l 3 0 3 i).1 + 1 ≤ 2 ^ 3 := mkS_sz l 3 0 2 i; omega) (rightS_up _ _ _ _ _ (by omega) (mkS_right l 3 0 2 i))
theorem consS_right (l : List Nat) : ∀ k i, RightK 3 (consS l 3 k i).1
  | 0, i, c, h => by cases h
  | k + 1, i, c, h => by
    rcases List.mem_cons.1 h with rfl | h
    · exact ⟨mkS_right3 l _, mkS_right3 l _⟩
    · exact consS_right l k _ c h
def holdsB (cs : List Kn) (v : List Int) : Bool := cs.all fun c => decide (lvS c.a v [] ≤ lvS c.b v [])
theorem holdsB_iff {cs : List Kn} {v : List Int} : holdsB cs v = true ↔ HoldK cs v := by simp [holdsB, HoldK]
end Pi


set_option linter.unusedSimpArgs false
set_option linter.unusedVariables false
namespace Pi
theorem goodK3 {cs : List Kn} (hok : ∀ c ∈ cs, c.Ok) (hl : cs.length ≤ 8) (hr : RightK 3 cs) : ∀ z : List Bool, z.length = 3 → GoodKs cs z := fun z hz => ⟨by omega, hl, fun c hc => ⟨hok c hc, by rw [hz]; exact hr c hc⟩⟩
theorem rightU3 {cs : List Kn} (hl : cs.length ≤ 8) (hr : RightK 3 cs) : RightU cs 3 = true := by
  simp only [RightU, Bool.and_eq_true, decide_eq_true_eq]
  refine ⟨⟨⟨by omega, by omega⟩, hl⟩, List.all_eq_true.2 fun c hc => ?_⟩
  have := hr c hc
  simp only [rightK, Bool.and_eq_true]
  exact this
theorem aft_ii (a b : Int) (m : Sto) (ids : List Nat) : aft (.tu [.i .i64 a, .i .i64 b]) m ids = m := by
  have h : (V.tu [V.i .i64 a, V.i .i64 b]).scal = true := rfl
  unfold aft
  rw [if_pos h]
end Pi


set_option linter.unusedSimpArgs false
set_option linter.unusedVariables false
namespace Pi
theorem evalL3 (X : L) (oX : X.Ok) (rX : RightS X (3 : Nat) 0 = true) (p : List Int) (hp : p.length = 3) (hn : Nats p) : Ans ctx level_Eval.n [.ag (cL X), sV cI p, .sl [] 0] (.tu [.i .i64 (lvS X p []), .i .i64 0]) := by
  have h := level_Eval.a X oX p [] (by omega) (by simp)
  rw [evalS_ok hp rfl rX hn (by intro a ha; simp at ha)] at h
  exact h
theorem top_holds.a (cs : List Kn) (hok : ∀ c ∈ cs, c.Ok) (hl : cs.length ≤ 100) (hr : RightK 3 cs) (v : List Int) (hv : v.length = 3) (hn : Nats v) : Ans ctx top_holds.n [sV cK cs, sV cI v] (.b (holdsB cs v)) := by
  refine ans top_holds.f ?_
  simp +contextual (disch := omega) [Nat.add_assoc, Int.add_assoc, if_pos, if_neg, -Int.not_lt, -Int.not_le, -Nat.not_lt, -Nat.not_le, -List.length_flatMap, top_holds.c]
  refine for_w (fun i e m x => e 0 = sV cK cs ∧ e 1 = sV cI v ∧ e 5 = .i .i64 i ∧ (cs.take i).all (fun c => decide (lvS c.a v [] ≤ lvS c.b v [])) = true) cs.length ?_ ?_ ?_
  · simp +contextual (disch := omega) [Nat.add_assoc, Int.add_assoc, if_pos, if_neg, -Int.not_lt, -Int.not_le, -Nat.not_lt, -Nat.not_le, -List.length_flatMap]
  · rintro i e m x hi ⟨g0, g1, g5, gt⟩
    have ho := hok _ (List.getElem_mem hi)
    have h := hr _ (List.getElem_mem hi)
    have eA := evalL3 cs[i].a ho.1 h.1 v hv hn
    have eB := evalL3 cs[i].b ho.2 h.2 v hv hn
    by_cases hle : lvS cs[i].a v [] ≤ lvS cs[i].b v []
    · have ht := take_all hi gt (by simpa using hle)
      simp +contextual (disch := omega) [Nat.add_assoc, Int.add_assoc, if_pos, if_neg, -Int.not_lt, -Int.not_le, -Nat.not_lt, -Nat.not_le, -List.length_flatMap, top_holds.b1, g0, g1, g5, hi, ansK eA, ansK eB, hle, ht]
    · have hb : holdsB cs v = false := by
        cases hh : holdsB cs v with
        | false => rfl
        | true => exact absurd (holdsB_iff.1 hh _ (List.getElem_mem hi)) hle
      simp +contextual (disch := omega) [Nat.add_assoc, Int.add_assoc, if_pos, if_neg, -Int.not_lt, -Int.not_le, -Nat.not_lt, -Nat.not_le, -List.length_flatMap, top_holds.b1, g0, g1, g5, hi, ansK eA, ansK eB, hle, hb]
  · rintro e m x ⟨g0, g1, g5, gt⟩
    rw [List.take_length] at gt
    have hb : holdsB cs v = true := gt
    simp +contextual (disch := omega) [Nat.add_assoc, Int.add_assoc, if_pos, if_neg, -Int.not_lt, -Int.not_le, -Nat.not_lt, -Nat.not_le, -List.length_flatMap, top_holds.b1, g0, g1, g5, hb]
set_option maxRecDepth 20000 in
set_option maxHeartbeats 8000000 in
theorem top_TopLevels.a (l : List Nat) (hb : Byt l) (ll : l.length ≤ 9223372036854775807) : Ans ctx top_TopLevels.n [sV cU l] (.b true) := by
  refine ans top_TopLevels.f ?_
  have bd1 := (mkS_bd l 3 0 3 0).2
  have bd2 := (mkS_bd l 3 0 3 (mkS l 3 0 3 0).2).2
  have h44 : 4 ^ (3 + 1) = 256 := by decide
  simp +contextual (disch := omega) [Nat.add_assoc, Int.add_assoc, if_pos, if_neg, -Int.not_lt, -Int.not_le, -Nat.not_lt, -Nat.not_le, -List.length_flatMap, top_TopLevels.c]
  refine made_w l hb 3 0 (by omega) (by omega) 7 2 (by omega) 0 (by omega) (by omega) (by simp +contextual (disch := omega) [Nat.add_assoc, Int.add_assoc, if_pos, if_neg, -Int.not_lt, -Int.not_le, -Nat.not_lt, -Nat.not_le, -List.length_flatMap]) ?_
  have okA := mkS_ok l 3 0 (by omega) (by omega) 3 0
  have okB := mkS_ok l 3 0 (by omega) (by omega) 3 (mkS l 3 0 3 0).2
  have rA := mkS_right3 l 0
  have rB := mkS_right3 l (mkS l 3 0 3 0).2
  intro c1 m1 x1 h1 h2 h3 h4 h5
  simp +contextual (disch := omega) [Nat.add_assoc, Int.add_assoc, if_pos, if_neg, -Int.not_lt, -Int.not_le, -Nat.not_lt, -Nat.not_le, -List.length_flatMap]
  refine made_w l hb 3 0 (by omega) (by omega) 7 2 (by omega) (mkS l 3 0 3 0).2 (by omega) (by omega) (by simp +contextual (disch := omega) [Nat.add_assoc, Int.add_assoc, if_pos, if_neg, -Int.not_lt, -Int.not_le, -Nat.not_lt, -Nat.not_le, -List.length_flatMap, h2]) ?_
  intro c2 m2 x2 q1 q2 q3 q4 q5
  obtain ⟨a0, a1, a2, rfl⟩ : ∃ a0 a1 a2, c1 = [a0, a1, a2] := by
    match c1, h1 with
    | [a, b, c], _ => exact ⟨a, b, c, rfl⟩
  obtain ⟨b0, b1, b2, rfl⟩ : ∃ a0 a1 a2, c2 = [a0, a1, a2] := by
    match c2, q1 with
    | [a, b, c], _ => exact ⟨a, b, c, rfl⟩
  generalize (mkS l 3 0 3 (mkS l 3 0 3 0).2) = R2 at *
  generalize (mkS l 3 0 3 0) = R1 at *
  simp +contextual (disch := omega) [Nat.add_assoc, Int.add_assoc, if_pos, if_neg, -Int.not_lt, -Int.not_le, -Nat.not_lt, -Nat.not_le, -List.length_flatMap]
  refine cons_w l hb 3 (by omega) 7 4 (by omega) R2.2 (by omega) (by omega) (by simp +contextual (disch := omega) [Nat.add_assoc, Int.add_assoc, if_pos, if_neg, -Int.not_lt, -Int.not_le, -Nat.not_lt, -Nat.not_le, -List.length_flatMap, q2]) ?_
  intro B m3 x3 hx3 z7 z8 hB
  have hok := consS_ok l 3 (by omega) (pickS l R2.2 (4 + 1)) (R2.2 + 1)
  have hri := consS_right l (pickS l R2.2 (4 + 1)) (R2.2 + 1)
  have hln := consS_len l 3 (pickS l R2.2 (4 + 1)) (R2.2 + 1)
  have hpk := pickS_lt l R2.2 (4 + 1) (by omega)
  generalize pickS l R2.2 (4 + 1) = kk at *
  generalize (consS l 3 kk (R2.2 + 1)).1 = cs at *
  generalize R2.1 = C at *
  generalize R1.1 = A at *
  have hU := rightU3 (cs := cs) (by omega) hri
  have hGd := goodK3 hok (by omega) hri
  have hR : leqRU cs 3 A C = true := by
    unfold leqRU
    rw [hU]
    simp only [Bool.true_and, Bool.and_eq_true]
    exact ⟨rA, rB⟩
  have hL := under_Leq.r cs hok (by omega) 3 A C okA okB
  have e3 : (3 : Int).toNat = 3 := rfl
  unfold leqBU leqOU leqEU at hL
  rw [hR, e3] at hL
  simp only [if_true, Bool.true_and] at hL
  have evA := evalL3 A okA rA
  have evC := evalL3 C okB rB
  have hH := top_holds.a cs hok (by omega) hri
  have hsome := fun v h => leq_some (v := v) hGd rA rB h
  have hnone := fun h p => leq_none (a := A) (b := C) (p := p) hGd rA rB h
  have eA := cL_at A
  have eC := cL_at C
  obtain ⟨ta, hta⟩ : ∃ t, t = sV cL A.kids := ⟨_, rfl⟩
  obtain ⟨tc, htc⟩ : ∃ t, t = sV cL C.kids := ⟨_, rfl⟩
  rw [← hta] at eA
  rw [← htc] at eC
  generalize A.kind = ka at eA
  generalize A.n = na at eA
  generalize C.kind = kc at eC
  generalize C.n = nc at eC
  rw [eA] at evA h5
  rw [eC] at evC q5
  rw [eA, eC] at hL
  obtain ⟨fa0, h5⟩ := h5.tail
  obtain ⟨fa1, h5⟩ := h5.tail
  obtain ⟨fa2, h5⟩ := h5.tail
  obtain ⟨fb0, q5⟩ := q5.tail
  obtain ⟨fb1, q5⟩ := q5.tail
  obtain ⟨fb2, q5⟩ := q5.tail
  have mem : ∀ M : Sto, (∀ j, 8 ≤ j → j < x2 → M j = m2 j) → ∀ d, 5 ≤ d → (∃ ids, frzW (der M d) a0 = some (.i .i64 ka, ids)) ∧ (∃ ids, frzW (der M d) a1 = some (.i .i64 na, ids)) ∧ (∃ ids, frzW (der M d) a2 = some (ta, ids)) ∧
      (∃ ids, frzW (der M d) b0 = some (.i .i64 kc, ids)) ∧ (∃ ids, frzW (der M d) b1 = some (.i .i64 nc, ids)) ∧ (∃ ids, frzW (der M d) b2 = some (tc, ids)) := fun M hM d hd =>
    have h1 : ∀ j, 10 ≤ j → j < x1 → M j = m1 j := fun j p1 p2 => (hM j (by omega) (by omega)).trans (q3 j (by omega) (by omega))
    have h2 : ∀ j, x1 + 1 ≤ j → j < x2 → M j = m2 j := fun j p1 p2 => hM j (by omega) p2
    ⟨fa0 M h1 d (by omega), fa1 M h1 d (by omega), fa2 M h1 d (by omega), fb0 M h2 d (by omega), fb1 M h2 d (by omega), fb2 M h2 d (by omega)⟩
  have ha3 : m3 x2 = some (.cells [a0, a1, a2] false) := by rw [z8 x2 (by omega) (by omega)]; simp +contextual (disch := omega) [Nat.add_assoc, Int.add_assoc, if_pos, if_neg, -Int.not_lt, -Int.not_le, -Nat.not_lt, -Nat.not_le, -List.length_flatMap]
  have hb3 : m3 (x2 + 1) = some (.cells [b0, b1, b2] false) := by rw [z8 (x2 + 1) (by omega) (by omega)]; simp +contextual (disch := omega) [Nat.add_assoc, Int.add_assoc, if_pos, if_neg, -Int.not_lt, -Int.not_le, -Nat.not_lt, -Nat.not_le, -List.length_flatMap]
  have hj3 : ∀ j, 8 ≤ j → j < x2 → m3 j = m2 j := fun j p1 p2 => by rw [z8 j (by omega) (by omega)]; simp +contextual (disch := omega) [Nat.add_assoc, Int.add_assoc, if_pos, if_neg, -Int.not_lt, -Int.not_le, -Nat.not_lt, -Nat.not_le, -List.length_flatMap]
  clear fa0 fa1 fa2 fb0 fb1 fb2 h3 q3 h2 q2 z8
  have hst := hB.stor
  have hsc := hB.cells
  obtain ⟨⟨_, f1⟩, ⟨_, f2⟩, ⟨_, f3⟩, ⟨_, f4⟩, ⟨_, f5⟩, ⟨_, f6⟩⟩ := mem m3 hj3 40 (by omega)
  obtain ⟨_, hz⟩ := hB.fz24 (by omega)
  simp +contextual (disch := omega) [Nat.add_assoc, Int.add_assoc, if_pos, if_neg, -Int.not_lt, -Int.not_le, -Nat.not_lt, -Nat.not_le, -List.length_flatMap, ha3, hb3, hst, hsc]
  refine under_Leq.fr ?_
  simp +contextual (disch := omega) [Nat.add_assoc, Int.add_assoc, if_pos, if_neg, -Int.not_lt, -Int.not_le, -Nat.not_lt, -Nat.not_le, -List.length_flatMap, f1, f2, f3, f4, f5, f6, hz]
  refine ansFK hL ?_
  obtain ⟨o, ho⟩ : ∃ o, o = leqU cs A C 3 := ⟨_, rfl⟩
  rw [← ho] at hsome hnone ⊢
  have hRw := Rw.out o m3 (x3 + 4)
  have hC := outC_lt o m3 (x3 + 4)
  generalize fM m3 (x3 + 4) (outC o) = m4 at *
  generalize fX (x3 + 4) (outC o) = x4 at *
  have hst2 := hRw.stor
  have hr1 : o = none → outU o (x3 + 4) = .ns := fun h => by rw [h]; rfl
  dsimp only
  generalize outU o (x3 + 4) = r at *
  clear f1 f2 f3 f4 f5 f6 hz
  have agr : ∀ j, j < x3 → m4 j = m3 j := fun j hj => hC.2 j (by omega)
  have ha4 := (agr x2 (by omega)).trans ha3
  have hb4 := (agr (x2 + 1) (by omega)).trans hb3
  obtain ⟨⟨_, f1⟩, ⟨_, f2⟩, ⟨_, f3⟩, ⟨_, f4⟩, ⟨_, f5⟩, ⟨_, f6⟩⟩ := mem m4 (fun j p1 p2 => (agr j (by omega)).trans (hj3 j p1 p2)) 40 (by omega)
  have hB4 := hB.up (m' := m4) (Nat.le_refl x3) (fun j p1 p2 => agr j p2)
  obtain ⟨_, hz⟩ := hB4.fz24 (by omega)
  cases hov : o with
  | some v =>
    obtain ⟨hv, hlt⟩ := hsome v hov
    have hnv : Nats v := fun a ha => by
      obtain ⟨i, hi, rfl⟩ := List.getElem_of_mem ha
      have := hv.nat i
      simp [hi] at this
      omega
    obtain ⟨_, hzr, _⟩ := hRw.fz
    rw [hov] at hzr
    simp only [Option.getD_some] at hzr
    have hHv := hH v hv.len hnv
    rw [holdsB_iff.2 hv.hold] at hHv
    simp +contextual (disch := omega) [Nat.add_assoc, Int.add_assoc, if_pos, if_neg, -Int.not_lt, -Int.not_le, -Nat.not_lt, -Nat.not_le, -List.length_flatMap, ha4, hb4, f1, f2, f3, f4, f5, f6, hz, hzr, hst2, ansK (evA v hv.len hnv), ansK (evC v hv.len hnv), ansK hHv, hlt, aft_ii]
  | none =>
    have hr := hr1 hov
    subst hr
    simp +contextual (disch := omega) [Nat.add_assoc, Int.add_assoc, if_pos, if_neg, -Int.not_lt, -Int.not_le, -Nat.not_lt, -Nat.not_le, -List.length_flatMap]
    refine for_w (fun i e m x => e 3 = .b true ∧ e 5 = .p x2 0 ∧ e 6 = .p (x2 + 1) 0 ∧ e 7 = B ∧ e 15 = .i .i64 i ∧ x4 ≤ x ∧ (∀ j, j < x4 → m j = m4 j)) 125 ?_ ?_ ?_
    · simp +contextual (disch := omega) [Nat.add_assoc, Int.add_assoc, if_pos, if_neg, -Int.not_lt, -Int.not_le, -Nat.not_lt, -Nat.not_le, -List.length_flatMap]
    · rintro i e m x hi ⟨g3, g5, g6, g7, g15, gx, gm⟩
      obtain ⟨a, ha⟩ : ∃ a, a = i % 5 := ⟨_, rfl⟩
      obtain ⟨b, hb2⟩ : ∃ b, b = i / 5 % 5 := ⟨_, rfl⟩
      obtain ⟨c, hc⟩ : ∃ c, c = i / 25 := ⟨_, rfl⟩
      have ta : ((i : Int)).tmod 5 = (a : Int) := by rw [Int.tmod_eq_emod_of_nonneg (by omega)]; omega
      have tb : ((i : Int) / 5).tmod 5 = (b : Int) := by rw [Int.tmod_eq_emod_of_nonneg (by omega)]; omega
      have tc : (i : Int) / 25 = (c : Int) := by omega
      have hnp : Nats [(a : Int), (b : Int), (c : Int)] := by intro z hz; simp at hz; omega
      have eA := evA _ rfl hnp
      have eB := evC _ rfl hnp
      have hH := hH _ rfl hnp
      have hle := hnone hov [(a : Int), (b : Int), (c : Int)] rfl (fun i => (hnp.getD i).1)
      generalize (a : Int) = u at *
      generalize (b : Int) = v at *
      generalize (c : Int) = s at *
      have hs3 : sV cI [u, v, s] = .sl [.i .i64 u, .i .i64 v, .i .i64 s] 3 := rfl
      rw [hs3] at eA eB hH
      have ha6 := (gm x2 (by omega)).trans ha4
      have hb6 := (gm (x2 + 1) (by omega)).trans hb4
      simp +contextual (disch := omega) [Nat.add_assoc, Int.add_assoc, if_pos, if_neg, -Int.not_lt, -Int.not_le, -Nat.not_lt, -Nat.not_le, -List.length_flatMap, top_TopLevels.b1, g3, g5, g6, g7, g15, hi, ta, tb, tc, ha6]
      generalize hM : Sto.set m _ _ = M
      have hMj : ∀ j, j < x4 → M j = m4 j := fun j hj => by rw [← hM, Sto.sne _ _ _ _ (by omega), gm j (by omega)]
      have hMs : M (x + 9) = some (.cells [.i .i64 u, .i .i64 v, .i .i64 s] false) := by rw [← hM]; simp +contextual (disch := omega) [Nat.add_assoc, Int.add_assoc, if_pos, if_neg, -Int.not_lt, -Int.not_le, -Nat.not_lt, -Nat.not_le, -List.length_flatMap]
      clear hM f1 f2 f3 f4 f5 f6 hz
      obtain ⟨⟨_, f1⟩, ⟨_, f2⟩, ⟨_, f3⟩, ⟨_, f4⟩, ⟨_, f5⟩, ⟨_, f6⟩⟩ := mem M (fun j p1 p2 => ((hMj j (by omega)).trans (agr j (by omega))).trans (hj3 j p1 p2)) 40 (by omega)
      obtain ⟨_, hz⟩ := (hB4.up (m' := M) (Nat.le_refl x3) (fun j p1 p2 => hMj j (by omega))).fz24 (by omega)
      have ha7 := (hMj x2 (by omega)).trans ha4
      have hb7 := (hMj (x2 + 1) (by omega)).trans hb4
      by_cases hlt : lvS C [u, v, s] [] < lvS A [u, v, s] []
      · have hb : holdsB cs [u, v, s] = false := by
          cases hh : holdsB cs [u, v, s] with
          | false => rfl
          | true => have := hle (holdsB_iff.1 hh); omega
        rw [hb] at hH
        simp +contextual (disch := omega) [Nat.add_assoc, Int.add_assoc, if_pos, if_neg, -Int.not_lt, -Int.not_le, -Nat.not_lt, -Nat.not_le, -List.length_flatMap, f1, f2, f3, f4, f5, f6, hz, ha7, hb7, hMs, ansK eA, ansK eB, ansK hH, aft_ii, hlt, g3, g5, g6, g7, g15]
        exact ⟨by omega, hMj⟩
      · simp +contextual (disch := omega) [Nat.add_assoc, Int.add_assoc, if_pos, if_neg, -Int.not_lt, -Int.not_le, -Nat.not_lt, -Nat.not_le, -List.length_flatMap, f1, f2, f3, f4, f5, f6, hz, ha7, hb7, hMs, ansK eA, ansK eB, ansK hH, aft_ii, hlt, g3, g5, g6, g7, g15]
        exact ⟨by omega, hMj⟩
    · rintro e m x ⟨g3, g5, g6, g7, g15, gx, gm⟩
      simp +contextual (disch := omega) [Nat.add_assoc, Int.add_assoc, if_pos, if_neg, -Int.not_lt, -Int.not_le, -Nat.not_lt, -Nat.not_le, -List.length_flatMap, top_TopLevels.b1, g3, g5, g6, g7, g15]
end Pi

